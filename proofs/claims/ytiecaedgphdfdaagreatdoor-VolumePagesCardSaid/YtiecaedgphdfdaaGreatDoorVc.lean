/- FinalAt: where a final is. -/
import Derived.Test.YtiecaedgphdfdaaGreatDoorVb
namespace Go.Proofs.YtiecaedgphdfdaaGreatDoor
open Go.RowKit

/-- Function value g with what it has captured answers p of a final. -/
def AnswersF (P : Program) (g : FuncId) (caps : Array Value) (w : World) (p : Fin4 → Bool) : Prop :=
  ∀ (y : Fin4) (ac : Option Addr) (lc cc : Nat) (wx : World), All w wx → Calls P g (#[.agg #[.string y.paper, .string y.title, .int .i64 y.pages, .slice ac lc cc]] ++ caps) wx fun e w' => e = .returned (.bool (p y)) ∧ All wx w'

set_option maxHeartbeats 800000 in
theorem indexFin_any (g : FuncId) (caps : Array Value) (eg : ∀ args w, (callFunc g args).run Tryz.prog w = .ok (.enter g args) w) (p : Fin4 → Bool)
    (a : Option Addr) (len cap : Nat) (ss : List Fin4) (w : World) (hs : Sl RFin 4 (fun _ => True) w a len ss) (hl : len ≤ 1000000) (hp : AnswersF Tryz.prog g caps w p) :
    Calls Tryz.prog 118 #[.slice a len cap, .func (.func g) #[] caps] w fun e w' => e = .returned (.int .i64 (findG p 0 ss)) ∧ All w w' := by
  have hlen := hs.len
  have HP := Lib.hid hp
  clear hp
  go_enter Tryz.func118, Tryz.ntmps118
  go_wp2
  go_loopw [5, 8] (fun _ i wr => ∃ k : Nat, k ≤ len ∧ i = .int .i64 k ∧ (ss.take k).any p = false ∧ All w wr) (fun _ i _ => len - (intOf i).toNat)
  case atStart => exact ⟨0, Nat.zero_le _, rfl, by simp, Kept.refl _ _⟩
  case round =>
    obtain ⟨k, hk, rfl, hnot, hall⟩ := hrel
    by_cases hlt : k < len
    · obtain ⟨b, off, y, ac, cc, ha, -, c0, c1, c2, c3, -, -, -, hy, hsplit, htake⟩ := (hs.keep RFin.ok hall).atFin hlt
      have hltake : (ss.take k).length = k := by simp; omega
      have Hsplit := Lib.hid hsplit
      have Htake := Lib.hid htake
      have Hl := Lib.hid hltake
      have Hnot := Lib.hid hnot
      clear hsplit htake hltake hlen hnot hy
      subst ha
      clear hs
      cases hpy : p y with
      | true =>
        have hfin : findG p 0 ss = k := by rw [Hsplit.out, findG_append Hnot.out, Hl.out, findG, if_pos hpy]; simp
        have Hfin := Lib.hid hfin
        clear hfin
        go_wp2_with fail
        refine (HP.out y _ _ _ _ hall).mono ?_
        rintro e w' ⟨rfl, hw⟩
        rw [hpy]
        go_wp2_with fail
        go_ret
        exact ⟨ret_int' Hfin.out.symm, hall.trans hw⟩
      | false =>
        go_wp2_with fail
        refine (HP.out y _ _ _ _ hall).mono ?_
        rintro e w' ⟨rfl, hw⟩
        rw [hpy]
        go_wp2_with fail
        go_roundw
        case rel => exact ⟨k + 1, by omega, by go_num, by rw [Htake.out, List.any_append, Hnot.out]; simp [hpy], hall.trans hw⟩
        case measure => simp [intOf]; omega
    · have hd : decide ((k : Int) < (len : Int)) = false := by simp; omega
      have hfin : findG p 0 ss = -1 := findG_neg (by rw [List.take_of_length_le (by omega)] at hnot; exact hnot)
      have Hfin := Lib.hid hfin
      clear hfin
      go_wp2
      go_ret
      exact ⟨ret_int' Hfin.out.symm, hall⟩

theorem finalAt1_any (kp : Nat) (p : ByteArray) (y : Fin4) (ac : Option Addr) (lc cc : Nat) (w : World) (ck : w.cell? ⟨kp, 0, none⟩ = some (.string p)) :
    Calls Tryz.prog 119 #[.agg #[.string y.paper, .string y.title, .int .i64 y.pages, .slice ac lc cc], .pointer (some ⟨kp, 0, none⟩)] w fun e w' => e = .returned (.bool (isPaper p y)) ∧ All w w' := by
  have hkp := lt_of_cell ck
  dsimp only at hkp
  by_cases h : y.paper = p
  · have hb : isPaper p y = true := by simp [isPaper, h]
    have e1 : (y.paper.toList == p.toList) = true := by simp [h]
    rw [hb]
    clear hb h
    go_enter Tryz.func119, Tryz.ntmps119
    go_wp2_with fail
    go_ret
    exact ⟨rfl, Kept.alloc _ _ _⟩
  · have hb : isPaper p y = false := by simp [isPaper, h]
    have e1 : (y.paper.toList == p.toList) = false := by simp; exact fun e => h (bytes_ext e)
    rw [hb]
    clear hb h
    go_enter Tryz.func119, Tryz.ntmps119
    go_wp2_with fail
    go_ret
    exact ⟨rfl, Kept.alloc _ _ _⟩

theorem finalAt_any (a : Option Addr) (len cap : Nat) (xs : List Fin4) (p : ByteArray) (w : World) (hs : Sl RFin 4 (fun _ => True) w a len xs) (hl : len ≤ 1000000) :
    Calls Tryz.prog 65 #[.slice a len cap, .string p] w fun e w' => e = .returned (.int .i64 (findG (isPaper p) 0 xs)) ∧ All w w' := by
  have hk1 : All w (w.alloc (.cells #[.string p] 9)) := Kept.alloc _ _ _
  have ha := heap_at w (.cells #[.string p] 9) _ rfl
  have hans : AnswersF Tryz.prog 119 #[.pointer (some ⟨w.heap.size, 0, none⟩)] (w.alloc (.cells #[.string p] 9)) (isPaper p) := fun y ac lc cc wx hwx =>
    finalAt1_any _ p y ac lc cc wx (hwx.cell (cell_at ha rfl) trivial)
  have eg : ∀ args w, (callFunc 119 args).run Tryz.prog w = .ok (.enter 119 args) w := enters_of Tryz.func119 (by kernel_rfl) rfl
  have HF := Lib.hid (indexFin_any 119 _ eg (isPaper p) a len cap xs _ (hs.keep RFin.ok hk1) hl hans)
  have hmf' := hmfC
  clear hans eg ha hs
  go_enter Tryz.func65, Tryz.ntmps65
  go_wp2_with fail
  refine HF.out.mono ?_
  rintro e w2 ⟨rfl, hw2⟩
  go_wp2_with fail
  go_ret
  exact ⟨rfl, hk1.trans hw2⟩
end Go.Proofs.YtiecaedgphdfdaaGreatDoor
