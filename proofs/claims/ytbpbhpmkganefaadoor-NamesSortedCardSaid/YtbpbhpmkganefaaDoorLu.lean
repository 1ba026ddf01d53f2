/- The law NamesSorted, walked. -/
import Derived.Test.YtbpbhpmkganefaaDoorFp
import Derived.Test.YtbpbhpmkganefaaDoorFq
import Derived.Test.YtbpbhpmkganefaaDoorEq
import Derived.Test.YtbpbhpmkganefaaDoorQb
import Derived.Test.YtbpbhpmkganefaaDoorWb
namespace Go.Proofs.YtbpbhpmkganefaaDoor
open Go.RowKit

theorem GlobS.lt {w : World} (h : GlobS w) : 3 < w.heap.size := by
  have ht := h.t
  unfold Lib.TabIs World.var? at ht
  rw [space_named] at ht
  simp only [Option.bind_some] at ht
  rcases Nat.lt_or_ge 3 w.heap.size with h' | h'
  · exact h'
  · rw [Array.getElem?_eq_none h'] at ht; cases ht
theorem GlobS.but {w w' : World} {b : Nat} (h : GlobS w) (k : Kept (fun i => i ≠ b) w w') (hb : 3 < b) : GlobS w' := h.kept k (h.g.but k (by omega)) (by omega)

set_option maxRecDepth 100000 in
set_option maxHeartbeats 12800000 in
theorem namesSorted_walk (a : Option Addr) (len cap : Nat) (w : World) (h : IsRow w a len cap) (hg : GlobS w) :
    Calls Tryd.prog 3 #[.slice a len cap] w fun e w' => e = .returned (.bool true) ∧ Below w.heap.size w w' := by
  have hst := h.start
  obtain ⟨σ, hσ⟩ : ∃ σ : St, σ = ⟨w.heap.size, a, len, cap⟩ := ⟨_, rfl⟩
  have hσb : σ.b = w.heap.size := by rw [hσ]
  rw [← hσ] at hst
  have Hσ := Lib.hid hσb
  have hptr : (Value.pointer (some ⟨w.heap.size, 0, none⟩)) = Value.pointer (some ⟨σ.b, 0, none⟩) := by rw [hσb]
  have Hptr := Lib.hid hptr
  have hlw := hg.lt
  have hσ3 : 3 < σ.b := by rw [hσb]; exact hlw
  have hk0 : Kept (fun k => k ≠ σ.b) w (w.alloc (.cells #[.slice a len cap, .int .i64 0] 25)) := Kept.alloc _ _ _
  have HG := Lib.hid (fun (wx : World) (k : Kept (fun k => k ≠ σ.b) w wx) => hg.but k hσ3)
  clear hσ hσb hptr h hg hlw
  go_enter Tryd.func3, Tryd.ntmps3
  go_wp2_with fail
  simp only [Hptr.out]
  generalize w.alloc (.cells #[.slice a len cap, .int .i64 0] 25) = w0 at *
  refine (bookName_any σ 0 _ hst (by omega)).mono ?_
  rintro e w1 ⟨v, n1, rfl, ⟨nm0, rfl, hz0⟩, -, hn1, hs1, hb1⟩
  have hk1 := hk0.trans hb1
  have hlt1 := hs1.lt
  have hka : All w1 (w1.alloc (.cells #[.int .i64 0, .int .i64 0, .int .i64 1, .int .i64 1, .int .i64 2] 3)) := Kept.alloc _ _ _
  have hri := heap_at w1 (.cells #[.int .i64 0, .int .i64 0, .int .i64 1, .int .i64 1, .int .i64 2] 3) _ rfl
  have HP := Lib.hid (pick_any σ n1 (some ⟨w1.heap.size, 0, none⟩) 5 5 [0, 0, 1, 1, 2] (w1.alloc (.cells #[.int .i64 0, .int .i64 0, .int .i64 1, .int .i64 1, .int .i64 2] 3)) (hs1.keep hka) (by omega) (Sl.lit_ints _ hri rfl (by omega)) (by omega) (by omega))
  have hk1a := hk1.trans (Kept.all hka)
  clear hst hb1 hk0 hs1 hka hri hk1
  go_wp2_with fail
  refine HP.out.mono ?_
  rintro e w2 ⟨v, n2, rfl, ⟨r, rfl, hr⟩, -, hn2, hs2, hb2⟩
  obtain ⟨t, hrt, ht⟩ : ∃ t : Nat, r = (t : Int) ∧ t ≤ 2 := by
    simp only [List.mem_cons, List.not_mem_nil, or_false] at hr
    rcases hr with rfl | rfl | rfl | rfl | rfl
    · exact ⟨0, rfl, by omega⟩
    · exact ⟨0, rfl, by omega⟩
    · exact ⟨1, rfl, by omega⟩
    · exact ⟨1, rfl, by omega⟩
    · exact ⟨2, rfl, by omega⟩
  subst hrt
  have hk2 := hk1a.trans hb2
  have HK2 := Lib.hid hk2
  clear hr hb2 hk1a hk2 HP
  go_wp2_with fail
  go_loopw [4, 18] (fun v i wr => ∃ (k : Nat) (nm : ByteArray) (m : Nat), k ≤ t ∧ i = .int .i64 k ∧ v = .string nm ∧ nm.size ≤ 40 + 100 * k ∧ m ≤ n2 + 3 * k ∧ Str σ wr m ∧ But σ.b w2 wr) (fun _ i _ => t - (intOf i).toNat)
  case atStart => exact ⟨0, nm0, n2, Nat.zero_le _, rfl, rfl, by omega, by omega, hs2, Kept.refl _ _⟩
  case round =>
    clear hs2
    obtain ⟨k, nm, m, hk, rfl, rfl, hnz, hm, hsr, hwr⟩ := hrel
    obtain ⟨wo, rfl⟩ : ∃ wo : World, wo = wr := ⟨_, rfl⟩
    by_cases hlt : k < t
    · have hd : decide ((k : Int) < (t : Int)) = true := by simp; omega
      have HC := Lib.hid (changed_any σ m nm ⟨#[32, 45, 100, 101, 118, 97, 110, 108, 65, 195, 169, 46]⟩ wo hsr (by omega) (by omega) (by decide) (by decide))
      clear hsr
      go_wp2_with fail
      refine HC.out.mono ?_
      rintro e w3 ⟨v, m3, rfl, ⟨nm3, rfl, hz3⟩, -, hm3, hs3, hb3⟩
      have hk3 := hwr.trans hb3
      go_wp2_with fail
      go_roundw
      case rel => exact ⟨k + 1, nm3, m3, by omega, by go_num, rfl, by omega, by omega, hs3, hk3⟩
      case measure => simp [intOf]; omega
    · have hd : decide ((k : Int) < (t : Int)) = false := by simp; omega
      have hk3 := HK2.out.trans hwr
      have hgo := HG.out _ hk3
      have HSN := Lib.hid (SortName_any nm wo (by omega) hgo.g)
      have HIN := Lib.hid (fun (wx : World) (kx : All wo wx) => Initials_any nm wx (by omega) (hgo.g.keep kx))
      have HPL := Lib.hid (fun (wx : World) (kx : All wo wx) => plain_any nm wx (by omega) (hgo.g.keep kx))
      have Hend := Lib.hid (show ∀ wx, All wo wx → Below w.heap.size w wx from fun wx hw => (hk3.trans (Kept.all hw)).below (Nat.le_refl _) (fun k hk => by have := Hσ.out; omega))
      have HGO := Lib.hid hgo
      clear hsr hwr hk3 hgo
      cases hl : lineB nm 100 with
      | true =>
        have HL := Lib.hid hl
        have hsm := lineB_small hl
        have hpl : plainB nm = true := by
          unfold lineB at hl
          simp only [Bool.and_eq_true] at hl
          exact hl.1.2
        have hn0 : ¬ nm.size = 0 := by
          unfold lineB at hl
          simp at hl
          exact fun e => hl.1.1 (by simpa using e)
        have dn : (nm.toList == []) = false := by rw [beq_eq_false_iff_ne]; exact toList_ne hn0
        have d2 : decide ((100 : Int) < (nm.size : Int)) = false := by simp; omega
        have HPB := Lib.hid hpl
        have HSO := Lib.hid (fun (wx : World) (kx : All wo wx) => sortOf_any nm wx hsm (HGO.out.keep kx))
        have HIO := Lib.hid (fun (wx : World) (kx : All wo wx) => initialsOf_any nm wx HL.out (HGO.out.keep kx))
        obtain ⟨sb, hsb⟩ : ∃ b, b = sortB nm := ⟨_, rfl⟩
        obtain ⟨ib, hib⟩ : ∃ b, b = initsB nm := ⟨_, rfl⟩
        rw [hl, ← hsb] at HSN
        rw [hl, ← hib] at HIN
        rw [← hsb] at HSO
        rw [← hib] at HIO
        clear hl hpl hn0 hsb hib
        go_wp2_with fail
        refine HSN.out.mono ?_
        rintro e w4 ⟨rfl, hw4⟩
        rw [if_pos rfl, if_pos rfl]
        go_wp2_with fail
        refine (HIN.out _ hw4).mono ?_
        rintro e w5 ⟨rfl, hw5⟩
        rw [if_pos rfl, if_pos rfl]
        have hk5 := hw4.trans hw5
        go_wp2_with fail
        refine (HPL.out _ hk5).mono ?_
        rintro e w6 ⟨rfl, hw6⟩
        rw [HPB.out]
        have hk6 := hk5.trans hw6
        go_wp2_with fail
        refine (whenV_any _ _ _).mono ?_
        rintro e w' ⟨rfl, hh⟩
        subst hh
        go_wp2_with fail
        refine (HSO.out _ hk6).mono ?_
        rintro e w7 ⟨rfl, hw7⟩
        have hk7 := hk6.trans hw7
        have e7 : (sb.toList == sb.toList) = true := by simp
        have e8 : (ib.toList == ib.toList) = true := by simp
        go_wp2_with fail
        refine (HIO.out _ hk7).mono ?_
        rintro e w8 ⟨rfl, hw8⟩
        have hk8 := hk7.trans hw8
        go_wp2_with fail
        refine (printed_any _).mono ?_
        rintro e w' ⟨rfl, hh⟩
        subst hh
        go_wp2_with fail
        go_ret
        exact ⟨rfl, Hend.out _ hk8⟩
      | false =>
        rw [hl] at HSN HIN
        have HNL := Lib.hid hl
        have hcat : ∀ wx, (Op.stringOp .add ⟨#[]⟩ ⟨#[]⟩).run Tryd.prog wx = .ok (.string ⟨#[]⟩) wx := fun wx => run_string_add_sum wx ⟨#[]⟩ ⟨#[]⟩ (by decide)
        have hff : ¬ (false = true) := by decide
        clear hl
        go_wp2_with fail
        refine HSN.out.mono ?_
        rintro e w4 ⟨rfl, hw4⟩
        rw [if_neg hff, if_neg hff]
        go_wp2_with fail
        refine (HIN.out _ hw4).mono ?_
        rintro e w5 ⟨rfl, hw5⟩
        rw [if_neg hff, if_neg hff]
        have hk5 := hw4.trans hw5
        by_cases h0 : nm.size = 0
        · have dn : (nm.toList == []) = true := by rw [toList_nil h0]; rfl
          clear h0
          go_wp2_with fail
          refine (whenV_any _ _ _).mono ?_
          rintro e w' ⟨rfl, hh⟩
          subst hh
          go_wp2_with fail
          refine (printed_any _).mono ?_
          rintro e w' ⟨rfl, hh⟩
          subst hh
          go_wp2_with fail
          go_ret
          exact ⟨rfl, Hend.out _ hk5⟩
        · have dn : (nm.toList == []) = false := by rw [beq_eq_false_iff_ne]; exact toList_ne h0
          cases hp : plainB nm with
          | false =>
            have HPB := Lib.hid hp
            clear hp
            go_wp2_with fail
            refine (HPL.out _ hk5).mono ?_
            rintro e w6 ⟨rfl, hw6⟩
            rw [HPB.out]
            have hk6 := hk5.trans hw6
            go_wp2_with fail
            refine (whenV_any _ _ _).mono ?_
            rintro e w' ⟨rfl, hh⟩
            subst hh
            go_wp2_with fail
            refine (printed_any _).mono ?_
            rintro e w' ⟨rfl, hh⟩
            subst hh
            go_wp2_with fail
            go_ret
            exact ⟨rfl, Hend.out _ hk6⟩
          | true =>
            have HPB := Lib.hid hp
            have d2 : decide ((100 : Int) < (nm.size : Int)) = true := by
              have h1 := HNL.out
              unfold lineB at h1
              simp [hp, h0] at h1
              simp
              omega
            clear hp
            go_wp2_with fail
            refine (HPL.out _ hk5).mono ?_
            rintro e w6 ⟨rfl, hw6⟩
            rw [HPB.out]
            have hk6 := hk5.trans hw6
            go_wp2_with fail
            refine (whenV_any _ _ _).mono ?_
            rintro e w' ⟨rfl, hh⟩
            subst hh
            go_wp2_with fail
            refine (printed_any _).mono ?_
            rintro e w' ⟨rfl, hh⟩
            subst hh
            go_wp2_with fail
            go_ret
            exact ⟨rfl, Hend.out _ hk6⟩
end Go.Proofs.YtbpbhpmkganefaaDoor
