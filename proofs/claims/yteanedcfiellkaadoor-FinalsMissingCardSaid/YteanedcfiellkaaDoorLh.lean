/- The law FinalsMissing, walked. -/
import Derived.Test.YteanedcfiellkaaDoorHb
import Derived.Test.YteanedcfiellkaaDoorHc
import Derived.Test.YteanedcfiellkaaDoorHf
import Derived.Test.YteanedcfiellkaaDoorFc
import Derived.Test.YteanedcfiellkaaDoorGh
import Derived.Test.YteanedcfiellkaaDoorWb
namespace Go.Proofs.YteanedcfiellkaaDoor
open Go.RowKit

/-- The first error of a list. -/
def firstD : List Int → Int
  | [] => 0
  | e :: l => if e ≠ 0 then e else firstD l
theorem errsD_any (a : Option Addr) (len cap : Nat) (es : List Int) (w : World) (hs : Sl RInt 1 (fun _ => True) w a len es) (hl : len ≤ 1000000) :
    Calls Tryd.prog 22 #[.slice a len cap] w fun e w' => e = .returned (.int .i64 (firstD es)) ∧ w = w' := by
  have hlen := hs.len
  go_enter Tryd.func22, Tryd.ntmps22
  go_wp2
  go_loop [4, 7] (fun _ i => ∃ k : Nat, k ≤ len ∧ i = .int .i64 k ∧ firstD es = firstD (es.drop k)) (fun _ i => len - (intOf i).toNat)
  case atStart => exact ⟨0, Nat.zero_le _, rfl, by simp⟩
  case round =>
    obtain ⟨k, hk, rfl, hat⟩ := hrel
    have Hat := Lib.hid hat
    clear hat
    by_cases hlt : k < len
    · obtain ⟨b, off, y, ha, -, hck, hy, -, -⟩ := hs.atInt hlt
      subst ha
      by_cases h0 : y = 0
      · have hb : (y != 0) = false := by simp [h0]
        have hn : firstD es = firstD (es.drop (k + 1)) := by rw [Hat.out, drop_at hy, firstD, if_neg (by simp [h0])]
        have Hn := Lib.hid hn
        clear hn h0 hlen
        go_wp2_with fail
        go_round
        case rel => exact ⟨k + 1, by omega, by go_num, Hn.out⟩
        case measure => simp [intOf]; omega
      · have hb : (y != 0) = true := by simp [h0]
        have hn : firstD es = y := by rw [Hat.out, drop_at hy, firstD, if_pos h0]
        have Hn := Lib.hid hn
        clear hn hlen
        go_wp2_with fail
        go_ret
        exact ⟨ret_int' Hn.out.symm, rfl⟩
    · have hd : decide ((k : Int) < (len : Int)) = false := by simp; omega
      have hfin : firstD es = 0 := by rw [Hat.out, List.drop_of_length_le (by omega)]; rfl
      have Hfin := Lib.hid hfin
      clear hfin
      go_wp2
      go_ret
      exact ⟨ret_int' Hfin.out.symm, rfl⟩
theorem firstD_pair (a b : Int) : firstD [a, b] = if a ≠ 0 then a else b := by
  unfold firstD
  by_cases h : a ≠ 0
  · rw [if_pos h, if_pos h]
  · rw [if_neg h, if_neg h]
    unfold firstD
    by_cases hb : b ≠ 0
    · rw [if_pos hb]
    · rw [if_neg hb]; unfold firstD; omega

set_option maxRecDepth 100000 in
set_option maxHeartbeats 3200000 in
theorem finalsMissing_walk (a : Option Addr) (len cap : Nat) (w : World) (h : IsRow w a len cap) (hg : Glob w) :
    Calls Tryd.prog 9 #[.slice a len cap] w fun e w' => e = .returned (.bool true) ∧ Below w.heap.size w w' := by
  have hgl : 2 < w.heap.size := by
    obtain ⟨m, hm⟩ := hg.most
    exact lt_of_cell hm
  have hst := h.start
  obtain ⟨σ, hσ⟩ : ∃ σ : St, σ = ⟨w.heap.size, a, len, cap⟩ := ⟨_, rfl⟩
  have hσb : σ.b = w.heap.size := by rw [hσ]
  rw [← hσ] at hst
  have Hσ := Lib.hid hσb
  have hptr : (Value.pointer (some ⟨w.heap.size, 0, none⟩)) = Value.pointer (some ⟨σ.b, 0, none⟩) := by rw [hσb]
  have Hptr := Lib.hid hptr
  have hσ2 : 2 < σ.b := by omega
  have hk0 : Kept (fun k => k ≠ σ.b) w (w.alloc (.cells #[.slice a len cap, .int .i64 0] 25)) := Kept.alloc _ _ _
  have HG := Lib.hid hg
  clear hσ hσb hptr h hg
  go_enter Tryd.func9, Tryd.ntmps9
  go_wp2_with fail
  simp only [Hptr.out]
  generalize w.alloc (.cells #[.slice a len cap, .int .i64 0] 25) = w0 at *
  refine (finals_any σ 0 _ hst (by omega)).mono ?_
  rintro e w1 ⟨v, n1, rfl, ⟨af, cf, xs, rfl, hxl, hcf, hf⟩, hn1, hn2, hs1, hb1⟩
  have hk1 := hk0.trans hb1
  clear hst hk0 hb1
  go_wp2_with fail
  refine (decisions_any σ n1 _ hs1 (by omega)).mono ?_
  rintro e w2 ⟨v, n2, rfl, ⟨ad, cd, ds, rfl, hdl, hdc, hd⟩, hn3, hn4, hs2, hb2⟩
  have hf2 := (hf.keep RFin.ok hb2).mono RFin.ok (G := fun _ => True) (fun _ _ => trivial)
  have hd2 := hd.mono RDec.ok (G := fun _ => True) (fun _ _ => trivial)
  have hk2 := hk1.trans hb2
  have hg2 := HG.out.but hk2 hσ2
  have HMI := Lib.hid (missing_any af xs.length cf xs ad ds.length cd ds w2 hf2 (by omega) hd2 (by omega) hg2)
  have HFF := Lib.hid (fun (wx : World) (hw : All w2 wx) => finalsFault_any af xs.length cf xs wx (hf2.keep RFin.ok hw) (by omega) (hg2.keep hw))
  have HVF := Lib.hid (fun (wx : World) (hw : All w2 wx) => verdictsFault_any ad ds.length cd ds wx (hd2.keep RDec.ok hw) (by omega) hdc)
  have HLA := Lib.hid (fun (wx : World) (hw : All w2 wx) => lackingOf_any af xs.length cf xs ad ds.length cd ds wx (hf2.keep RFin.ok hw) (by omega) (hd2.keep RDec.ok hw) (by omega))
  have hend : ∀ wx, All w2 wx → Below w.heap.size w wx := fun wx hw => (hk2.trans (Kept.all hw)).below (Nat.le_refl _) (fun k hk => by have := Hσ.out; omega)
  have Hend := Lib.hid hend
  have HLL := Lib.hid (show (sortB (lackF xs ds)).length ≤ 1000 by rw [sortB_length]; have := lackF_len xs ds; omega)
  clear hf hd hf2 hd2 hk1 hk2 hg2 hs1 hs2 hb2 hend HG hdc
  generalize xs.length = xl at *
  generalize ds.length = dl at *
  go_wp2_with fail
  refine HMI.out.mono ?_
  rintro e w3 ⟨ao, co, ss, er, hr, rfl, hss, hw3⟩
  clear HMI
  go_wp2_with fail
  refine (HFF.out _ hw3).mono ?_
  rintro e w4 ⟨rfl, hq4⟩
  have hw4 := hw3.trans hq4
  go_wp2_with fail
  refine (HVF.out _ hw4).mono ?_
  rintro e w5 ⟨rfl, hq5⟩
  have hw5 := hw4.trans hq5
  have hs5 := hss.keep RStr.ok (hq4.trans hq5)
  clear HFF HVF hq4 hq5 hw3 hw4 hss
  by_cases hf0 : finalsF xs = 0
  · by_cases hv0 : verdF [] ds = 0
    · rw [missF_ok hf0 hv0] at hr
      obtain ⟨rfl, rfl⟩ := Prod.mk.inj hr
      rw [hf0, hv0]
      clear hr hf0 hv0
      have hll := HLL.out
      have hs5' := Lib.hid hs5
      clear hs5
      generalize hSS : sortB (lackF xs ds) = ss at *
      obtain ⟨sl, hsl⟩ : ∃ sl, sl = ss.length := ⟨_, rfl⟩
      rw [← hsl]
      have Hsl := Lib.hid hsl
      clear hsl
      clear hSS
      go_wp2_with fail
      refine (errsD_any _ _ _ [0, 0] _ (Sl.lit_ints _ (heap_at _ _ _ rfl) rfl trivial) (by simp)).mono ?_
      rintro e w8 ⟨rfl, rfl⟩
      have hz : firstD [0, 0] = 0 := by rw [firstD_pair]; simp
      rw [hz]
      clear hz
      have hw8 : All w2 (w5.alloc (.cells #[.int .i64 0, .int .i64 0] 32)) := hw5.then_alloc _
      have hs8 := Lib.hid (hs5'.out.keep RStr.ok (Kept.alloc (fun _ => True) w5 (.cells #[.int .i64 0, .int .i64 0] 32)))
      clear hw5 hs5'
      go_wp2_with fail
      refine (HLA.out _ hw8).mono ?_
      rintro e w9 ⟨a9, c9, rfl, hss9, hq9⟩
      have HE := Lib.hid (equalStr_same ao sl co a9 ss.length c9 ss w9 (by rw [Hsl.out]; exact hs8.out.keep RStr.ok hq9) hss9 (by have := Hsl.out; omega))
      have hw9 := hw8.trans hq9
      clear hq9 hw8 hs8 hss9
      generalize ss.length = sm at *
      go_wp2_with fail
      refine HE.out.mono ?_
      rintro e w10 ⟨rfl, hq10⟩
      have hfin2 := Lib.hid (Hend.out _ (hw9.trans hq10))
      clear hq10 hw9 HE
      go_wp2_with fail
      refine (printed_any _).mono ?_
      rintro e w' ⟨rfl, rfl⟩
      go_wp2_with fail
      go_ret
      exact ⟨rfl, hfin2.out⟩
    · rw [missF_verd hf0 rfl hv0] at hr
      rw [hf0]
      clear hf0
      obtain ⟨rfl, rfl⟩ := Prod.mk.inj hr
      clear hr HLA
      have hz : firstD [0, verdF [] ds] = verdF [] ds := by rw [firstD_pair]; simp
      have Hz := Lib.hid hz
      have d0 : (verdF [] ds != 0) = true := by simp [hv0]
      have d1 : (verdF [] ds == verdF [] ds) = true := by simp
      clear hz
      simp only [List.length_nil] at hs5 ⊢
      go_wp2_with fail
      refine (errsD_any _ _ _ [0, verdF [] ds] _ (Sl.lit_ints _ (heap_at _ _ _ rfl) rfl trivial) (by simp)).mono ?_
      rintro e w8 ⟨rfl, rfl⟩
      rw [Hz.out]
      clear Hz
      have hw8 : All w2 (w5.alloc (.cells #[.int .i64 0, .int .i64 (verdF [] ds)] 32)) := hw5.then_alloc _
      have hfin2 := Lib.hid (Hend.out _ hw8)
      clear hw5 hs5 hw8
      go_wp2_with fail
      refine (printed_any _).mono ?_
      rintro e w' ⟨rfl, rfl⟩
      go_wp2_with fail
      go_ret
      exact ⟨rfl, hfin2.out⟩
  · rw [missF_fin hf0] at hr
    obtain ⟨rfl, rfl⟩ := Prod.mk.inj hr
    clear hr HLA
    have hz : firstD [finalsF xs, verdF [] ds] = finalsF xs := by rw [firstD_pair]; simp [hf0]
    have Hz := Lib.hid hz
    have d0 : (finalsF xs != 0) = true := by simp [hf0]
    have d1 : (finalsF xs == finalsF xs) = true := by simp
    clear hz
    simp only [List.length_nil] at hs5 ⊢
    go_wp2_with fail
    refine (errsD_any _ _ _ [finalsF xs, verdF [] ds] _ (Sl.lit_ints _ (heap_at _ _ _ rfl) rfl trivial) (by simp)).mono ?_
    rintro e w8 ⟨rfl, rfl⟩
    rw [Hz.out]
    clear Hz
    have hw8 : All w2 (w5.alloc (.cells #[.int .i64 (finalsF xs), .int .i64 (verdF [] ds)] 32)) := hw5.then_alloc _
    have hfin2 := Lib.hid (Hend.out _ hw8)
    clear hw5 hs5 hw8
    go_wp2_with fail
    refine (printed_any _).mono ?_
    rintro e w' ⟨rfl, rfl⟩
    go_wp2_with fail
    go_ret
    exact ⟨rfl, hfin2.out⟩
end Go.Proofs.YteanedcfiellkaaDoor
