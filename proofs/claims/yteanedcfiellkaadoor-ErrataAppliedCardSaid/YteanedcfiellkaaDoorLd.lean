/- The law ErrataApplied, walked. -/
import Derived.Test.YteanedcfiellkaaDoorEl
import Derived.Test.YteanedcfiellkaaDoorEm
import Derived.Test.YteanedcfiellkaaDoorEn
import Derived.Test.YteanedcfiellkaaDoorEp
import Derived.Test.YteanedcfiellkaaDoorWb
namespace Go.Proofs.YteanedcfiellkaaDoor
open Go.RowKit

/-- The first error of a list. -/
def firstD : List Int → Int
  | [] => 0
  | e :: l => if e ≠ 0 then e else firstD l
theorem errsD_any (a : Option Addr) (len cap : Nat) (es : List Int) (w : World) (hs : Sl RInt 1 (fun _ => True) w a len es) (hl : len ≤ 1000000) :
    Calls Tryd.prog 22 #[.slice a len cap] w fun e w' => e = .returned (.int .i64 (firstD es)) ∧ w = w' := by
  have hlen := hs.len
  go_enter Tryd.func22, Tryd.ntmps22
  go_wp2
  go_loop [4, 7] (fun _ i => ∃ k : Nat, k ≤ len ∧ i = .int .i64 k ∧ firstD es = firstD (es.drop k)) (fun _ i => len - (intOf i).toNat)
  case atStart => exact ⟨0, Nat.zero_le _, rfl, by simp⟩
  case round =>
    obtain ⟨k, hk, rfl, hat⟩ := hrel
    have Hat := Lib.hid hat
    clear hat
    by_cases hlt : k < len
    · obtain ⟨b, off, y, ha, -, hck, hy, -, -⟩ := hs.atInt hlt
      subst ha
      by_cases h0 : y = 0
      · have hb : (y != 0) = false := by simp [h0]
        have hn : firstD es = firstD (es.drop (k + 1)) := by rw [Hat.out, drop_at hy, firstD, if_neg (by simp [h0])]
        have Hn := Lib.hid hn
        clear hn h0 hlen
        go_wp2_with fail
        go_round
        case rel => exact ⟨k + 1, by omega, by go_num, Hn.out⟩
        case measure => simp [intOf]; omega
      · have hb : (y != 0) = true := by simp [h0]
        have hn : firstD es = y := by rw [Hat.out, drop_at hy, firstD, if_pos h0]
        have Hn := Lib.hid hn
        clear hn hlen
        go_wp2_with fail
        go_ret
        exact ⟨ret_int' Hn.out.symm, rfl⟩
    · have hd : decide ((k : Int) < (len : Int)) = false := by simp; omega
      have hfin : firstD es = 0 := by rw [Hat.out, List.drop_of_length_le (by omega)]; rfl
      have Hfin := Lib.hid hfin
      clear hfin
      go_wp2
      go_ret
      exact ⟨ret_int' Hfin.out.symm, rfl⟩
theorem firstD_pair (a b : Int) : firstD [a, b] = if a ≠ 0 then a else b := by
  unfold firstD
  by_cases h : a ≠ 0
  · rw [if_pos h, if_pos h]
  · rw [if_neg h, if_neg h]
    unfold firstD
    by_cases hb : b ≠ 0
    · rw [if_pos hb]
    · rw [if_neg hb]; unfold firstD; omega

set_option maxRecDepth 100000 in
set_option maxHeartbeats 3200000 in
theorem errataApplied_walk (a : Option Addr) (len cap : Nat) (w : World) (h : IsRow w a len cap) (hg : Glob w) :
    Calls Tryd.prog 6 #[.slice a len cap] w fun e w' => e = .returned (.bool true) ∧ Below w.heap.size w w' := by
  have hgl : 2 < w.heap.size := by
    obtain ⟨m, hm⟩ := hg.most
    exact lt_of_cell hm
  have hst := h.start
  obtain ⟨σ, hσ⟩ : ∃ σ : St, σ = ⟨w.heap.size, a, len, cap⟩ := ⟨_, rfl⟩
  have hσb : σ.b = w.heap.size := by rw [hσ]
  rw [← hσ] at hst
  have Hσ := Lib.hid hσb
  have hptr : (Value.pointer (some ⟨w.heap.size, 0, none⟩)) = Value.pointer (some ⟨σ.b, 0, none⟩) := by rw [hσb]
  have Hptr := Lib.hid hptr
  have hσ2 : 2 < σ.b := by omega
  have hk0 : Kept (fun k => k ≠ σ.b) w (w.alloc (.cells #[.slice a len cap, .int .i64 0] 25)) := Kept.alloc _ _ _
  have HG := Lib.hid hg
  clear hσ hσb hptr h hg
  go_enter Tryd.func6, Tryd.ntmps6
  go_wp2_with fail
  simp only [Hptr.out]
  generalize w.alloc (.cells #[.slice a len cap, .int .i64 0] 25) = w0 at *
  refine (finals_any σ 0 _ hst (by omega)).mono ?_
  rintro e w1 ⟨v, n1, rfl, ⟨af, cf, xs, rfl, hxl, hcf, hf⟩, hn1, hn2, hs1, hb1⟩
  have hk1 := hk0.trans hb1
  clear hst hk0 hb1
  go_wp2_with fail
  refine (errata_any σ n1 af xs.length cf xs _ hs1 (by omega) hf (by omega)).mono ?_
  rintro e w2 ⟨v, n2, rfl, ⟨ae, ce, es, rfl, hel, he⟩, hn3, hn4, hs2, hb2⟩
  have hf2 := (hf.keep RFin.ok hb2).mono RFin.ok (G := fun _ => True) (fun _ _ => trivial)
  have he2 := he.mono RErr.ok (G := fun _ => True) (fun _ _ => trivial)
  have hk2 := hk1.trans hb2
  have hg2 := HG.out.but hk2 hσ2
  have HAP := Lib.hid (apply_any af xs.length cf xs ae es.length ce es w2 hf2 (by omega) he2 (by omega) hg2)
  have HCE := Lib.hid (fun (wx : World) (hw : All w2 wx) => checkErrata_any ae es.length ce es wx (he2.keep RErr.ok hw) (by omega) (hg2.keep hw))
  have HEF := Lib.hid (fun (wx : World) (hw : All w2 wx) => errataFault_any ae es.length ce es wx (he2.keep RErr.ok hw) (by omega) (hg2.keep hw))
  have HFF := Lib.hid (fun (wx : World) (hw : All w2 wx) => finalsFault_any af xs.length cf xs wx (hf2.keep RFin.ok hw) (by omega) (hg2.keep hw))
  have HCO := Lib.hid (fun (wx : World) (hw : All w2 wx) (h1 : finalsF xs = 0) (h2 : errataF es = 0) => correctOf_any af xs.length cf xs ae es.length ce es wx (hf2.keep RFin.ok hw) (by omega) (he2.keep RErr.ok hw) (by omega) (finalsF_rises h1).1 (errataF_field h2))
  have hend : ∀ wx, All w2 wx → Below w.heap.size w wx := fun wx hw => (hk2.trans (Kept.all hw)).below (Nat.le_refl _) (fun k hk => by have := Hσ.out; omega)
  have Hend := Lib.hid hend
  have hne : (errataF es != errataF es) = false := by simp
  clear hf he hf2 he2 hk1 hk2 hg2 hs1 hs2 hb2 hend HG
  generalize xs.length = xl at *
  generalize es.length = el at *
  go_wp2_with fail
  refine HAP.out.mono ?_
  rintro e w3 ⟨ao, co, ys, nn, er, hr, rfl, hys, hyl, hw3⟩
  clear HAP
  go_wp2_with fail
  refine (HCE.out _ hw3).mono ?_
  rintro e w4 ⟨rfl, hq4⟩
  have hw4 := hw3.trans hq4
  go_wp2_with fail
  refine (HEF.out _ hw4).mono ?_
  rintro e w5 ⟨rfl, hq5⟩
  have hw5 := hw4.trans hq5
  go_wp2_with fail
  refine (HFF.out _ hw5).mono ?_
  rintro e w6 ⟨rfl, hq6⟩
  have hw6 := hw5.trans hq6
  go_wp2_with fail
  refine (HEF.out _ hw6).mono ?_
  rintro e w7 ⟨rfl, hq7⟩
  have hw7 := hw6.trans hq7
  have hy7 := hys.keep RFin.ok ((hq4.trans hq5).trans (hq6.trans hq7))
  clear HCE HEF HFF hq4 hq5 hq6 hq7 hw3 hw4 hw5 hw6 hys hne
  by_cases hf0 : finalsF xs = 0
  · by_cases he0 : errataF es = 0
    · rw [applyAll_ok hf0 he0] at hr
      have HC := Lib.hid (fun (wx : World) (hw : All w2 wx) => HCO.out wx hw hf0 he0)
      rw [hf0, he0]
      have Hr := Lib.hid hr
      clear HCO hr hf0 he0
      go_wp2_with fail
      refine (errsD_any _ _ _ [0, 0] _ (Sl.lit_ints _ (heap_at _ _ _ rfl) rfl trivial) (by simp)).mono ?_
      rintro e w8 ⟨rfl, rfl⟩
      have hz : firstD [0, 0] = 0 := by rw [firstD_pair]; simp
      rw [hz]
      clear hz
      have hw8 : All w2 (w7.alloc (.cells #[.int .i64 0, .int .i64 0] 32)) := hw7.then_alloc _
      have hy8 := hy7.keep RFin.ok (Kept.alloc (fun _ => True) w7 (.cells #[.int .i64 0, .int .i64 0] 32))
      clear hw7 hy7
      go_wp2_with fail
      refine (HC.out _ hw8).mono ?_
      rintro e w9 ⟨a9, c9, ys9, nn9, er9, hr9, rfl, hys9, hyl9, hq9⟩
      have hr10 := Hr.out.symm.trans hr9
      obtain ⟨rfl, hr11⟩ := Prod.mk.inj hr10
      obtain ⟨rfl, rfl⟩ := Prod.mk.inj hr11
      have hw9 := hw8.trans hq9
      have hy9 := hy8.keep RFin.ok hq9
      clear Hr hr9 hr10 hr11 hq9 hw8 hy8 HC
      have d1 : (er == er) = true := by simp
      have d2 : (nn == nn) = true := by simp
      have HE := Lib.hid (equalFin_same ao ys.length co a9 ys.length c9 ys w9 hy9 hys9 (by omega))
      have hfin := Lib.hid hw9
      clear hy9 hys9 hw9
      generalize ys.length = yl at *
      go_wp2_with fail
      refine HE.out.mono ?_
      rintro e w10 ⟨rfl, hq10⟩
      have hfin2 := Lib.hid (Hend.out _ (hfin.out.trans hq10))
      clear hq10 hfin HE
      go_wp2_with fail
      refine (printed_any _).mono ?_
      rintro e w' ⟨rfl, rfl⟩
      go_wp2_with fail
      go_ret
      exact ⟨rfl, hfin2.out⟩
    · rw [applyAll_err hf0 he0] at hr
      rw [hf0]
      clear hf0
      obtain ⟨rfl, hr11⟩ := Prod.mk.inj hr
      obtain ⟨rfl, rfl⟩ := Prod.mk.inj hr11
      clear hr11 HCO hr hyl
      have hz : firstD [0, errataF es] = errataF es := by rw [firstD_pair]; simp
      have Hz := Lib.hid hz
      have d0 : (errataF es == 0) = false := by simp [he0]
      have d1 : (errataF es == errataF es) = true := by simp
      clear hz
      simp only [List.length_nil] at hy7 ⊢
      go_wp2_with fail
      refine (errsD_any _ _ _ [0, errataF es] _ (Sl.lit_ints _ (heap_at _ _ _ rfl) rfl trivial) (by simp)).mono ?_
      rintro e w8 ⟨rfl, rfl⟩
      rw [Hz.out]
      clear Hz
      have hw8 : All w2 (w7.alloc (.cells #[.int .i64 0, .int .i64 (errataF es)] 32)) := hw7.then_alloc _
      have hy8 := hy7.keep RFin.ok (Kept.alloc (fun _ => True) w7 (.cells #[.int .i64 0, .int .i64 (errataF es)] 32))
      clear hw7 hy7
      have HE := Lib.hid (equalFin_same ao 0 co none 0 0 [] _ hy8 (Sl.nil _ _ _ _ _) (by omega))
      have hfin := Lib.hid hw8
      clear hy8 hw8
      go_wp2_with fail
      refine HE.out.mono ?_
      rintro e w10 ⟨rfl, hq10⟩
      have hfin2 := Lib.hid (Hend.out _ (hfin.out.trans hq10))
      clear hq10 hfin HE
      go_wp2_with fail
      refine (printed_any _).mono ?_
      rintro e w' ⟨rfl, rfl⟩
      go_wp2_with fail
      go_ret
      exact ⟨rfl, hfin2.out⟩
  · rw [applyAll_fin hf0] at hr
    obtain ⟨rfl, hr11⟩ := Prod.mk.inj hr
    obtain ⟨rfl, rfl⟩ := Prod.mk.inj hr11
    clear hr11 HCO hr hyl
    have hz : firstD [finalsF xs, errataF es] = finalsF xs := by rw [firstD_pair]; simp [hf0]
    have Hz := Lib.hid hz
    have d0 : (finalsF xs == 0) = false := by simp [hf0]
    have d1 : (finalsF xs == finalsF xs) = true := by simp
    clear hz
    simp only [List.length_nil] at hy7 ⊢
    go_wp2_with fail
    refine (errsD_any _ _ _ [finalsF xs, errataF es] _ (Sl.lit_ints _ (heap_at _ _ _ rfl) rfl trivial) (by simp)).mono ?_
    rintro e w8 ⟨rfl, rfl⟩
    rw [Hz.out]
    clear Hz
    have hw8 : All w2 (w7.alloc (.cells #[.int .i64 (finalsF xs), .int .i64 (errataF es)] 32)) := hw7.then_alloc _
    have hy8 := hy7.keep RFin.ok (Kept.alloc (fun _ => True) w7 (.cells #[.int .i64 (finalsF xs), .int .i64 (errataF es)] 32))
    clear hw7 hy7
    have HE := Lib.hid (equalFin_same ao 0 co none 0 0 [] _ hy8 (Sl.nil _ _ _ _ _) (by omega))
    have hfin := Lib.hid hw8
    clear hy8 hw8
    go_wp2_with fail
    refine HE.out.mono ?_
    rintro e w10 ⟨rfl, hq10⟩
    have hfin2 := Lib.hid (Hend.out _ (hfin.out.trans hq10))
    clear hq10 hfin HE
    go_wp2_with fail
    refine (printed_any _).mono ?_
    rintro e w' ⟨rfl, rfl⟩
    go_wp2_with fail
    go_ret
    exact ⟨rfl, hfin2.out⟩
end Go.Proofs.YteanedcfiellkaaDoor
