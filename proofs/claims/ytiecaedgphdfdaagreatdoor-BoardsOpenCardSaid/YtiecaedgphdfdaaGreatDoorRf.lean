/- The reference's scores: numbers counted out. -/
import Derived.Test.YtiecaedgphdfdaaGreatDoorRa
import Derived.Test.YtiecaedgphdfdaaGreatDoorZb
namespace Go.Proofs.YtiecaedgphdfdaaGreatDoor
open Go.RowKit

/-- Those of a list that are n. -/
def onlyI (n : Nat) (l : List Int) : List Int := l.filter fun x => decide (x = (n : Int))
theorem onlyI_succ {xs : List Mark3} {k : Nat} {m : Mark3} {p : ByteArray} {n : Nat} (h : xs.take (k + 1) = xs.take k ++ [m]) : onlyI n (scs (xs.take (k + 1)) p) = if m.paper = p ∧ m.score = n then onlyI n (scs (xs.take k) p) ++ [(n : Int)] else onlyI n (scs (xs.take k) p) := by
  rw [scs_succ h]
  by_cases h1 : m.paper = p
  · by_cases h2 : m.score = n
    · simp [h1, h2, onlyI]
    · simp [h1, h2, onlyI]
  · simp [h1]
theorem cntsI_only (l : List Int) (n : Nat) : cntsI l (n + 1) = cntsI l n ++ onlyI n l := rfl
theorem cntsI_len (l : List Int) : ∀ n : Nat, (cntsI l n).length ≤ n * l.length
  | 0 => by simp [cntsI]
  | n + 1 => by
    rw [cntsI_only, List.length_append, Nat.add_mul, Nat.one_mul]
    have h1 := cntsI_len l n
    have h2 : (onlyI n l).length ≤ l.length := List.length_filter_le _ _
    omega

def ListPost (zs : List Int) (w : World) (e : Ending) (w' : World) : Prop := ∃ v, e = .returned v ∧ Acc RInt 1 3 (fun _ => False) w.heap.size w' v zs ∧ All w w'

set_option maxRecDepth 100000 in
set_option maxHeartbeats 3200000 in
theorem scores_any (a : Option Addr) (len cap : Nat) (xs : List Mark3) (p : ByteArray) (w : World) (hs : Sl RMark 3 (fun _ => True) w a len xs) (hl : len ≤ 3000) :
    Calls Tryz.prog 86 #[.slice a len cap, .string p] w (ListPost (cntsI (scs xs p) 11) w) := by
  have Hlen := Lib.hid hs.len
  go_enter Tryz.func86, Tryz.ntmps86
  go_wp2_with fail
  go_loopw [5, 9] (fun o i wr => ∃ N : Nat, N ≤ 11 ∧ i = .int .i64 N ∧ Acc RInt 1 3 (fun _ => False) w.heap.size wr o (cntsI (scs xs p) N) ∧ All w wr) (fun _ i _ => 11 - (intOf i).toNat)
  case atStart => exact ⟨0, Nat.zero_le _, rfl, Acc.nil _ _ _ _ _ _, Kept.refl _ _⟩
  case round =>
    obtain ⟨N, hN, rfl, hacc, hwo⟩ := hrel
    obtain ⟨wo, rfl⟩ : ∃ wo : World, wo = wr := ⟨_, rfl⟩
    by_cases hlt : N < 11
    · have hdN : decide ((N : Int) < 11) = true := by simp; omega
      go_wp2_with fail
      go_loopw [5, 14] (fun o i wr => ∃ k : Nat, k ≤ len ∧ i = .int .i64 k ∧ Acc RInt 1 3 (fun _ => False) w.heap.size wr o (cntsI (scs xs p) N ++ onlyI N (scs (xs.take k) p)) ∧ All w wr) (fun _ i _ => len - (intOf i).toNat)
      case atStart => exact ⟨0, Nat.zero_le _, rfl, by simpa [onlyI, scs] using hacc, hwo⟩
      case round =>
        clear hacc hwo
        obtain ⟨k, hk, rfl, hacc, hwi⟩ := hrel
        obtain ⟨wi, rfl⟩ : ∃ wi : World, wi = wr := ⟨_, rfl⟩
        by_cases hkl : k < len
        · obtain ⟨b, off, x, ha, -, c0, c1, c2, hz1, hz2, hx, -, hxt⟩ := (hs.keep RMark.ok hwi).atMark hkl
          subst ha
          have HXT := Lib.hid hxt
          have hwa := hwi.then_alloc (.cells #[.string x.paper, .string x.person, .int .i64 x.score] 132)
          have hacca := hacc.keepAll RInt.ok (Kept.alloc (fun _ => True) wi (.cells #[.string x.paper, .string x.person, .int .i64 x.score] 132))
          have hblk := heap_at wi (.cells #[.string x.paper, .string x.person, .int .i64 x.score] 132) _ rfl
          have e0 := cell_at (i := 0) hblk rfl
          have e2 := cell_at (i := 2) hblk rfl
          have hLn : (cntsI (scs xs p) N ++ onlyI N (scs (xs.take k) p)).length + 1 ≤ 1000000000 := by
            have h1 := cntsI_len (scs xs p) N
            have h2 : (onlyI N (scs (xs.take k) p)).length ≤ (scs (xs.take k) p).length := List.length_filter_le _ _
            have h3 := scs_len xs p
            have h4 := scs_len (xs.take k) p
            have h5 := List.length_take_le k xs
            have h6 := Hlen.out
            have h7 : N * (scs xs p).length ≤ 11 * 3000 := Nat.mul_le_mul (by omega) (by omega)
            rw [List.length_append]
            omega
          clear hx hxt hblk hacc hwi
          by_cases h1 : x.paper = p
          · have d1 : (x.paper.toList == p.toList) = true := by simp [h1]
            by_cases h2 : x.score = N
            · have d2 : (x.score == (N : Int)) = true := by simp [h2]
              have HN := Lib.hid (show cntsI (scs xs p) N ++ onlyI N (scs (xs.take (k + 1)) p) = (cntsI (scs xs p) N ++ onlyI N (scs (xs.take k) p)) ++ [(N : Int)] by rw [onlyI_succ HXT.out, if_pos ⟨h1, h2⟩, List.append_assoc])
              clear h1 h2
              have hwas := hwa.size
              generalize cntsI (scs xs p) N ++ onlyI N (scs (xs.take k) p) = L at *
              go_wp2_with (at_builtin; refine wp_append1 RInt.ok _ rfl _ _ 22 rfl w.heap.size 3 (.int .i64 0) 1 8 Tryz.underlying22 (by kernel_rfl) rfl (by decide) (fun _ => False) _ _ rfl (hacca.keepAll RInt.ok (Kept.alloc _ _ _)) ⟨_, 0, none⟩ 1 [.int .i64 N] rfl rfl (World.news_of_block (cs := #[.int .i64 N]) (heap_at _ _ _ (by simp))) (by simp [Value.oneCell']) (N : Int) rfl hLn (by decide) (by have := hwa.size; simp at this ⊢; omega) ?_)
              intro p' c' w3 hacc3 hg3 _
              have hw3 : All w w3 := (hwa.then_alloc _).grown hg3 (fun k hk => Or.inl (hacca.lt k hk).1)
              clear hacca hg3
              go_wp2_with fail
              go_roundw
              case rel => exact ⟨k + 1, by omega, by go_num, by rw [HN.out]; exact hacc3, hw3⟩
              case measure => simp [intOf]; omega
            · have d2 : (x.score == (N : Int)) = false := by simp [h2]
              have HN := Lib.hid (show cntsI (scs xs p) N ++ onlyI N (scs (xs.take (k + 1)) p) = cntsI (scs xs p) N ++ onlyI N (scs (xs.take k) p) by rw [onlyI_succ HXT.out, if_neg (fun h => h2 h.2)])
              clear h1 h2
              generalize cntsI (scs xs p) N ++ onlyI N (scs (xs.take k) p) = L at *
              go_wp2_with fail
              go_roundw
              case rel => exact ⟨k + 1, by omega, by go_num, by rw [HN.out]; exact hacca, hwa⟩
              case measure => simp [intOf]; omega
          · have d1 : (x.paper.toList == p.toList) = false := by
              rw [beq_eq_false_iff_ne]
              intro e
              exact h1 (by rw [tl_data, tl_data] at e; exact Go.WideShapes.bytes_inj e)
            have HN := Lib.hid (show cntsI (scs xs p) N ++ onlyI N (scs (xs.take (k + 1)) p) = cntsI (scs xs p) N ++ onlyI N (scs (xs.take k) p) by rw [onlyI_succ HXT.out, if_neg (fun h => h1 h.1)])
            clear h1
            generalize cntsI (scs xs p) N ++ onlyI N (scs (xs.take k) p) = L at *
            go_wp2_with fail
            go_roundw
            case rel => exact ⟨k + 1, by omega, by go_num, by rw [HN.out]; exact hacca, hwa⟩
            case measure => simp [intOf]; omega
        · have hdk : decide ((k : Int) < (len : Int)) = false := by simp; omega
          have HN := Lib.hid (show cntsI (scs xs p) (N + 1) = cntsI (scs xs p) N ++ onlyI N (scs (xs.take k) p) by rw [List.take_of_length_le (l := xs) (by have := Hlen.out; omega)]; rfl)
          generalize cntsI (scs xs p) N ++ onlyI N (scs (xs.take k) p) = L at *
          go_wp2_with fail
          go_roundw
          case rel => exact ⟨N + 1, by omega, by go_num, by rw [HN.out]; exact hacc, hwi⟩
          case measure => simp [intOf]; omega
    · have hd : decide ((N : Int) < 11) = false := by simp; omega
      have hNe : N = 11 := by omega
      subst hNe
      generalize cntsI (scs xs p) 11 = L at *
      obtain ⟨ao, co, rfl, -⟩ := hacc.form
      go_wp2_with fail
      go_ret
      exact ⟨_, rfl, hacc, hwo⟩
end Go.Proofs.YtiecaedgphdfdaaGreatDoor
