/- TalksOf. -/
import Derived.Test.YtiecaedgphdfdaaGreatDoorUd
import Derived.Test.YtiecaedgphdfdaaGreatDoorRf
import Derived.Test.YtiecaedgphdfdaaGreatDoorRd
import Derived.Test.YtiecaedgphdfdaaGreatDoorKc
import Derived.Test.YtiecaedgphdfdaaGreatDoorTa
import Derived.Test.YtiecaedgphdfdaaGreatDoorZj
import Derived.StillTactics
namespace Go.Proofs.YtiecaedgphdfdaaGreatDoor
open Go.RowKit

def TalksOfPost (r : TR) (ps : List ByteArray) (xs : List Mark3) (rep : List ByteArray) (w : World) (e : Ending) (w' : World) : Prop :=
  ∃ v, e = .returned v ∧ Acc RCalled 2 77 (fun k => w.heap.size ≤ k) w.heap.size w' v (talksOf r (fun p => srtI (scs xs p)) rep ps) ∧ All w w'
/-- The reasons found up to place k. -/
def whyN (a b c d : Bool) : Nat → List Int
  | 0 => []
  | 1 => []
  | 2 => if a = true then [1] else []
  | 3 => (if a = true then [1] else []) ++ (if b = true then [2] else [])
  | 4 => (if a = true then [1] else []) ++ (if b = true then [2] else []) ++ (if c = true then [3] else [])
  | _ => whyB a b c d
theorem whyN_len (a b c d : Bool) (k : Nat) : (whyN a b c d k).length ≤ 4 := by
  unfold whyN
  split <;> cases a <;> cases b <;> cases c <;> cases d <;> decide

set_option maxRecDepth 100000 in
set_option maxHeartbeats 12800000 in
theorem talksOf_any (sp fr til few : Int) (re : Bool) (ap : Option Addr) (lp cp : Nat) (ps : List ByteArray) (am : Option Addr) (lm cm : Nat) (xs : List Mark3) (ar : Option Addr) (lr cr : Nat) (rep : List ByteArray) (w : World)
    (hp : Sl RStr 1 (fun _ => True) w ap lp ps) (hpl : lp ≤ 1000000) (hm : Sl RMark 3 (fun _ => True) w am lm xs) (hr : Sl RStr 1 (fun _ => True) w ar lr rep) (hrl : lr ≤ 1000000) (h1 : talkF ⟨sp, fr, til, few, re⟩ = 0) (h3 : marksF xs = 0) :
    Calls Tryz.prog 39 #[.agg #[.int .i64 sp, .int .i64 fr, .int .i64 til, .int .i64 few, .bool re], .slice ap lp cp, .slice am lm cm, .slice ar lr cr] w (TalksOfPost ⟨sp, fr, til, few, re⟩ ps xs rep w) := by
  have hk1 : All w (w.alloc (.cells #[.int .i64 sp, .int .i64 fr, .int .i64 til, .int .i64 few, .bool re] 68)) := Kept.alloc _ _ _
  have hrb := heap_at w (.cells #[.int .i64 sp, .int .i64 fr, .int .i64 til, .int .i64 few, .bool re] 68) _ rfl
  have c0 := cell_at (i := 0) hrb rfl
  have c1 := cell_at (i := 1) hrb rfl
  have c2 := cell_at (i := 2) hrb rfl
  have c3 := cell_at (i := 3) hrb rfl
  have c4 := cell_at (i := 4) hrb rfl
  have HPs := Lib.hid (fun (wx : World) (k : All w wx) => hp.keep RStr.ok k)
  have HMs := Lib.hid (fun (wx : World) (k : All w wx) => hm.keep RMark.ok k)
  have HRs := Lib.hid (fun (wx : World) (k : All w wx) => hr.keep RStr.ok k)
  have Hlp := Lib.hid hp.len
  have Hlm := Lib.hid hm.len
  have hx := marksF_scores h3
  obtain ⟨b1, b2, b3, b4, b5, b6, b7⟩ := talkF_bounds h1
  dsimp only at b1 b2 b3 b4 b5 b6 b7
  have hlm3 : lm ≤ 3000 := by have := Hlm.out; omega
  have HCN := Lib.hid (fun q => show cntsI (scs xs q) 11 = srtI (scs xs q) from (srtI_cnts (fun z hz => by obtain ⟨m, hm, rfl⟩ := scs_mem hz; exact hx.2 m hm)).symm)
  have HX := Lib.hid (fun r => show (∀ z ∈ srtI (scs xs r), 0 ≤ z ∧ z ≤ 10) ∧ (srtI (scs xs r)).length ≤ 3000 from ⟨fun z hz => by obtain ⟨m, hm, rfl⟩ := scs_mem (srtI_mem.1 hz); exact hx.2 m hm, by have := scs_len xs r; rw [srtI_len]; omega⟩)
  have HC := Lib.hid (fun (wx : World) (k : All (w.alloc (.cells #[.int .i64 sp, .int .i64 fr, .int .i64 til, .int .i64 few, .bool re] 68)) wx) => (⟨k.cell c0 trivial, k.cell c1 trivial, k.cell c2 trivial, k.cell c3 trivial, k.cell c4 trivial⟩ : _ ∧ _ ∧ _ ∧ _ ∧ _))
  have hsw : w.heap.size ≤ (w.alloc (.cells #[.int .i64 sp, .int .i64 fr, .int .i64 til, .int .i64 few, .bool re] 68)).heap.size := by simp
  clear hrb hp hm hr hx h1 h3 c0 c1 c2 c3 c4
  obtain ⟨f, hf⟩ : ∃ f : ByteArray → List Int, f = fun p => srtI (scs xs p) := ⟨_, rfl⟩
  have HXF := Lib.hid (show ∀ r, (∀ z ∈ f r, 0 ≤ z ∧ z ≤ 10) ∧ (f r).length ≤ 3000 from by rw [hf]; exact HX.out)
  have HCF := Lib.hid (show ∀ q, cntsI (scs xs q) 11 = f q from by rw [hf]; exact HCN.out)
  have HFE := Lib.hid hf
  clear HX HCN hf
  go_enter Tryz.func39, Tryz.ntmps39
  go_wp2_with fail
  generalize w.alloc (.cells #[.int .i64 sp, .int .i64 fr, .int .i64 til, .int .i64 few, .bool re] 68) = w6 at *
  go_loopw [9, 11, 12, 13, 14, 15, 16, 17, 20] (fun v _ _ _ _ _ _ _ i wr => ∃ k : Nat, k ≤ lp ∧ i = .int .i64 k ∧ Acc RCalled 2 77 (fun j => w6.heap.size ≤ j) w6.heap.size wr v (talksOf ⟨sp, fr, til, few, re⟩ f rep (ps.take k)) ∧ All w6 wr) (fun _ _ _ _ _ _ _ _ i _ => lp - (intOf i).toNat)
  case atStart => exact ⟨0, Nat.zero_le _, rfl, Acc.nil _ _ _ _ _ _, Kept.refl _ _⟩
  case round =>
    obtain ⟨k, hk, rfl, hout, hall⟩ := hrel
    obtain ⟨wq, rfl⟩ : ∃ wo : World, wo = wr := ⟨_, rfl⟩
    have hallq := hk1.trans hall
    by_cases hlt : k < lp
    · obtain ⟨b, off, y, ha, -, hck, hyz, -, -, htake⟩ := (HPs.out _ hallq).atStr hlt
      have Htake := Lib.hid htake
      subst ha
      clear htake
      go_wp2_with fail
      refine (scores_any am lm cm xs y _ (HMs.out _ hallq) hlm3).mono ?_
      rintro e wo ⟨v, rfl, hacs, hwo⟩
      rw [HCF.out y] at hacs
      have hall2 := hall.trans hwo
      have hall6 := hk1.trans hall2
      have hszo := hall2.size
      replace hout := hout.keepAll RCalled.ok hwo
      obtain ⟨ay, cy, rfl, hsy⟩ := hacs.sl RInt.ok (by decide) (G := fun _ => True) (fun _ h => h.elim) (fun _ _ => trivial)
      clear hacs hwo hall hallq hck
      obtain ⟨hz1, hz2⟩ := HXF.out y
      have HWY := Lib.hid (show whyOf ⟨sp, fr, til, few, re⟩ (f y) y rep = whyB (isSpread ⟨sp, fr, til, few, re⟩ (f y)) (isMiddle ⟨sp, fr, til, few, re⟩ (f y)) (isFew ⟨sp, fr, til, few, re⟩ (f y)) (isReply ⟨sp, fr, til, few, re⟩ y rep) from rfl)
      obtain ⟨s, hs⟩ : ∃ s, s = f y := ⟨_, rfl⟩
      have HS := Lib.hid hs
      rw [← hs] at hsy hz1 hz2 HWY ⊢
      clear hs
      have hsb := sumI_bound hz1
      obtain ⟨hs1, hs2⟩ := hsb
      have hs3 : sumI s ≤ 30000 := by omega
      obtain ⟨m, hm⟩ : ∃ m, m = s.length := ⟨_, rfl⟩
      have HM := Lib.hid hm
      rw [← hm] at hsy hz2 ⊢
      clear hm hs2
      obtain ⟨q1, q2⟩ := prod_bd (a := fr) (n := m) b3 (by omega) hz2
      obtain ⟨q3, q4⟩ := prod_bd (a := til) (n := m) (by omega) (by omega) hz2
      have HZ := Lib.hid hz1
      have HSY := Lib.hid (fun (wx : World) (k : All wo wx) => hsy.keep RInt.ok k)
      clear hz1 hsy
      obtain ⟨S, hS⟩ : ∃ S, S = sumI s := ⟨_, rfl⟩
      have HSUM := Lib.hid hS
      rw [← hS] at hs1 hs3
      clear hS
      obtain ⟨c0, c1, c2, c3, c4⟩ := HC.out _ hall2
      go_upto_region 7 with fail
      go_cut [14] (fun t wx => ∃ hb : Nat, t = .pointer (some ⟨hb, 0, none⟩) ∧ wo.heap.size ≤ hb ∧ wx.heap[hb]? = some (.cells #[.bool false, .bool (isSpread ⟨sp, fr, til, few, re⟩ s), .bool (isMiddle ⟨sp, fr, til, few, re⟩ s), .bool (isFew ⟨sp, fr, til, few, re⟩ s), .bool (isReply ⟨sp, fr, til, few, re⟩ y rep)] 150 (0, 0)) ∧ All wo wx)
      case first =>
        have H3 := Lib.hid (show isFew ⟨sp, fr, til, few, re⟩ s = decide ((m : Int) < few) from by rw [isFew, ← HM.out])
        obtain ⟨rb, hrb⟩ : ∃ rb, rb = re := ⟨_, rfl⟩
        have HRP := Lib.hid (show isReply ⟨sp, fr, til, few, re⟩ y rep = (rb && memB y rep) from by rw [hrb]; rfl)
        have HRB := Lib.hid hrb
        clear hrb c0 c1 c2 c3 c4
        by_cases g2 : 0 < m
        · have d2' : decide ((0 : Int) < (m : Int)) = true := by simp; omega
          have hmx : max (0 : Int) ((m : Int) - 1) = (m : Int) - 1 := by omega
          have hwr : IntKind.i64.wrap ((m : Int) - 1) = (m : Int) - 1 := IntWalk.i64_in _ (by omega)
          have hm0 : (1 : Int) ≤ (m : Int) := by omega
          have hm1 : (m : Int) - 1 < (m : Int) := by omega
          have hws : IntKind.i64.wrap (10 * S) = 10 * S := IntWalk.i64_in _ (by omega)
          have hwf : IntKind.i64.wrap (fr * (m : Int)) = fr * (m : Int) := IntWalk.i64_in _ (by omega)
          have hwt : IntKind.i64.wrap (til * (m : Int)) = til * (m : Int) := IntWalk.i64_in _ (by omega)
          have htn : ((m : Int) - 1).toNat = m - 1 := by omega
          by_cases g1 : 0 < sp
          · have d1 : decide (0 < sp) = true := by simpa using g1
            obtain ⟨bs, os, rfl, -, hcs⟩ := (HSY.out _ (Kept.refl _ _)).ints g2
            have e0 := hcs 0 g2
            have e1 := hcs (m - 1) (by omega)
            simp only [Nat.add_zero] at e0
            have hb0 := getD_bound HZ.out (by decide) 0
            have hb1 := getD_bound HZ.out (by decide) (m - 1)
            have H1 := Lib.hid (show isSpread ⟨sp, fr, til, few, re⟩ s = decide (sp ≤ s.getD (m - 1) 0 - s.getD 0 0) from by rw [isSpread, ← HM.out]; simp [g1, g2])
            clear hcs
            generalize s.getD 0 0 = z0 at *
            generalize s.getD (m - 1) 0 = z1 at *
            obtain ⟨hb0a, hb0b⟩ := hb0
            obtain ⟨hb1a, hb1b⟩ := hb1
            have hwz : IntKind.i64.wrap (z1 - z0) = z1 - z0 := IntWalk.i64_in _ (by omega)
            have HCS := Lib.hid (fun (W : World) (k : All wo W) => And.intro (k.cell e0 trivial) (k.cell e1 trivial))
            clear e0 e1
            by_cases g3 : fr * (m : Int) ≤ 10 * S
            · have d3 : decide (fr * (m : Int) ≤ 10 * S) = true := by simpa using g3
              have H2 := Lib.hid (show isMiddle ⟨sp, fr, til, few, re⟩ s = decide (10 * S < til * (m : Int)) from by rw [isMiddle, ← HM.out, ← HSUM.out]; simp [g2, g3])
              clear g3
              cases rb with
              | false =>
                have H4 := Lib.hid (show isReply ⟨sp, fr, til, few, re⟩ y rep = false from by rw [HRP.out]; rfl)
                refine wp_region_quiet_new 58 14 (Obj.cells #[.bool false, .bool false, .bool false, .bool false, .bool false] 150) (by kernel_rfl) (by kernel_rfl) (by kernel_rfl) (by kernel_rfl) (fun W => All wo W) (Kept.drew _ _) ((Kept.drew _ _).then_alloc _) ?aN1 ?g3 ?g4 (fun W hW => ?g5) ?g6 ?g7
                case g5 =>
                  obtain ⟨c0, c1, c2, c3, c4⟩ := HC.out W (hall2.trans hW)
                  rw [← HRB.out] at c4
                  have hcs := HCS.out W hW
                  have e0 := hcs.1
                  have e1 := hcs.2
                  clear hcs
                  simp only [List.take_succ_cons, List.take_zero]
                  iterate 26 (refine still_do (by kernel_rfl) (fun K hK => ?_); have HK := Lib.hid hK; clear hK; go_simp; refine HK.out _ ?_; clear HK K)
                  iterate 1 (refine still_do (by kernel_rfl) (fun K hK => ?_); have HK := Lib.hid hK; clear hK; go_simp; refine ⟨_, ((total_any (some ⟨bs, os, none⟩) m cy s W (HSY.out W hW) (by omega) HZ.out).mono fun _ _ ⟨h1, h2⟩ => ⟨h1, h2.symm⟩), HK.out _ ?_⟩; clear HK K)
                  rw [← HSUM.out]
                  iterate 10 (refine still_do (by kernel_rfl) (fun K hK => ?_); have HK := Lib.hid hK; clear hK; go_simp; refine HK.out _ ?_; clear HK K)
                  iterate 1 (refine still_do (by kernel_rfl) (fun K hK => ?_); have HK := Lib.hid hK; clear hK; go_simp; refine ⟨_, ((total_any (some ⟨bs, os, none⟩) m cy s W (HSY.out W hW) (by omega) HZ.out).mono fun _ _ ⟨h1, h2⟩ => ⟨h1, h2.symm⟩), HK.out _ ?_⟩; clear HK K)
                  rw [← HSUM.out]
                  iterate 15 (refine still_do (by kernel_rfl) (fun K hK => ?_); have HK := Lib.hid hK; clear hK; go_simp; refine HK.out _ ?_; clear HK K)
                  iterate 3 (refine still_skip (by kernel_rfl) (fun K hK => ?_); have HK := Lib.hid hK; clear hK; go_simp; refine HK.out _ ?_; clear HK K)
                  iterate 2 (refine still_do (by kernel_rfl) (fun K hK => ?_); have HK := Lib.hid hK; clear hK; go_simp; refine HK.out _ ?_; clear HK K)
                  refine still_nil ?_
                  rfl
                case g3 => rfl
                case g4 => rfl
                case g6 =>
                  intro o ho
                  obtain rfl := Option.some.inj ho
                  exact ⟨rfl, fun a => by first | rfl | kernel_rfl | (simp [go_sem])⟩
                case g7 =>
                  simp only [List.drop_succ_cons, List.drop_zero]
                  all_goals
                    go_wp2_with fail
                    go_meet
                    refine ⟨wo.heap.size, rfl, Nat.le_refl _, ?_, ?_⟩
                    · rw [H1.out, H2.out, H3.out, H4.out]
                      exact heap_at _ _ _ rfl
                    · repeat (first | assumption | exact Kept.refl _ _ | refine Kept.then_drew ?_ | refine Kept.then_drewN ?_ _ | refine Kept.then_alloc ?_ _)
              | true =>
                have H4 := Lib.hid (show isReply ⟨sp, fr, til, few, re⟩ y rep = memB y rep from by rw [HRP.out]; simp)
                refine wp_region_quiet_new 58 14 (Obj.cells #[.bool false, .bool false, .bool false, .bool false, .bool false] 150) (by kernel_rfl) (by kernel_rfl) (by kernel_rfl) (by kernel_rfl) (fun W => All wo W) (Kept.drew _ _) ((Kept.drew _ _).then_alloc _) ?aN2 ?g3 ?g4 (fun W hW => ?g5) ?g6 ?g7
                case g5 =>
                  obtain ⟨c0, c1, c2, c3, c4⟩ := HC.out W (hall2.trans hW)
                  rw [← HRB.out] at c4
                  have hcs := HCS.out W hW
                  have e0 := hcs.1
                  have e1 := hcs.2
                  clear hcs
                  simp only [List.take_succ_cons, List.take_zero]
                  iterate 26 (refine still_do (by kernel_rfl) (fun K hK => ?_); have HK := Lib.hid hK; clear hK; go_simp; refine HK.out _ ?_; clear HK K)
                  iterate 1 (refine still_do (by kernel_rfl) (fun K hK => ?_); have HK := Lib.hid hK; clear hK; go_simp; refine ⟨_, ((total_any (some ⟨bs, os, none⟩) m cy s W (HSY.out W hW) (by omega) HZ.out).mono fun _ _ ⟨h1, h2⟩ => ⟨h1, h2.symm⟩), HK.out _ ?_⟩; clear HK K)
                  rw [← HSUM.out]
                  iterate 10 (refine still_do (by kernel_rfl) (fun K hK => ?_); have HK := Lib.hid hK; clear hK; go_simp; refine HK.out _ ?_; clear HK K)
                  iterate 1 (refine still_do (by kernel_rfl) (fun K hK => ?_); have HK := Lib.hid hK; clear hK; go_simp; refine ⟨_, ((total_any (some ⟨bs, os, none⟩) m cy s W (HSY.out W hW) (by omega) HZ.out).mono fun _ _ ⟨h1, h2⟩ => ⟨h1, h2.symm⟩), HK.out _ ?_⟩; clear HK K)
                  rw [← HSUM.out]
                  iterate 17 (refine still_do (by kernel_rfl) (fun K hK => ?_); have HK := Lib.hid hK; clear hK; go_simp; refine HK.out _ ?_; clear HK K)
                  iterate 1 (refine still_do (by kernel_rfl) (fun K hK => ?_); have HK := Lib.hid hK; clear hK; go_simp; refine ⟨_, ((contains_any ar lr cr rep y W (HRs.out W (hall6.trans hW)) hrl).mono fun _ _ ⟨h1, h2⟩ => ⟨h1, h2.symm⟩), HK.out _ ?_⟩; clear HK K)
                  iterate 2 (refine still_do (by kernel_rfl) (fun K hK => ?_); have HK := Lib.hid hK; clear hK; go_simp; refine HK.out _ ?_; clear HK K)
                  refine still_nil ?_
                  rfl
                case g3 => rfl
                case g4 => rfl
                case g6 =>
                  intro o ho
                  obtain rfl := Option.some.inj ho
                  exact ⟨rfl, fun a => by first | rfl | kernel_rfl | (simp [go_sem])⟩
                case g7 =>
                  simp only [List.drop_succ_cons, List.drop_zero]
                  all_goals
                    go_wp2_with fail
                    go_meet
                    refine ⟨wo.heap.size, rfl, Nat.le_refl _, ?_, ?_⟩
                    · rw [H1.out, H2.out, H3.out, H4.out]
                      exact heap_at _ _ _ rfl
                    · repeat (first | assumption | exact Kept.refl _ _ | refine Kept.then_drew ?_ | refine Kept.then_drewN ?_ _ | refine Kept.then_alloc ?_ _)
            · have d3 : decide (fr * (m : Int) ≤ 10 * S) = false := by simpa using g3
              have H2 := Lib.hid (show isMiddle ⟨sp, fr, til, few, re⟩ s = false from by rw [isMiddle, ← HM.out, ← HSUM.out]; simp [g3])
              clear g3
              cases rb with
              | false =>
                have H4 := Lib.hid (show isReply ⟨sp, fr, til, few, re⟩ y rep = false from by rw [HRP.out]; rfl)
                refine wp_region_quiet_new 58 14 (Obj.cells #[.bool false, .bool false, .bool false, .bool false, .bool false] 150) (by kernel_rfl) (by kernel_rfl) (by kernel_rfl) (by kernel_rfl) (fun W => All wo W) (Kept.drew _ _) ((Kept.drew _ _).then_alloc _) ?aN3 ?g3 ?g4 (fun W hW => ?g5) ?g6 ?g7
                case g5 =>
                  obtain ⟨c0, c1, c2, c3, c4⟩ := HC.out W (hall2.trans hW)
                  rw [← HRB.out] at c4
                  have hcs := HCS.out W hW
                  have e0 := hcs.1
                  have e1 := hcs.2
                  clear hcs
                  simp only [List.take_succ_cons, List.take_zero]
                  iterate 26 (refine still_do (by kernel_rfl) (fun K hK => ?_); have HK := Lib.hid hK; clear hK; go_simp; refine HK.out _ ?_; clear HK K)
                  iterate 1 (refine still_do (by kernel_rfl) (fun K hK => ?_); have HK := Lib.hid hK; clear hK; go_simp; refine ⟨_, ((total_any (some ⟨bs, os, none⟩) m cy s W (HSY.out W hW) (by omega) HZ.out).mono fun _ _ ⟨h1, h2⟩ => ⟨h1, h2.symm⟩), HK.out _ ?_⟩; clear HK K)
                  rw [← HSUM.out]
                  iterate 9 (refine still_do (by kernel_rfl) (fun K hK => ?_); have HK := Lib.hid hK; clear hK; go_simp; refine HK.out _ ?_; clear HK K)
                  iterate 9 (refine still_skip (by kernel_rfl) (fun K hK => ?_); have HK := Lib.hid hK; clear hK; go_simp; refine HK.out _ ?_; clear HK K)
                  iterate 8 (refine still_do (by kernel_rfl) (fun K hK => ?_); have HK := Lib.hid hK; clear hK; go_simp; refine HK.out _ ?_; clear HK K)
                  iterate 3 (refine still_skip (by kernel_rfl) (fun K hK => ?_); have HK := Lib.hid hK; clear hK; go_simp; refine HK.out _ ?_; clear HK K)
                  iterate 2 (refine still_do (by kernel_rfl) (fun K hK => ?_); have HK := Lib.hid hK; clear hK; go_simp; refine HK.out _ ?_; clear HK K)
                  refine still_nil ?_
                  rfl
                case g3 => rfl
                case g4 => rfl
                case g6 =>
                  intro o ho
                  obtain rfl := Option.some.inj ho
                  exact ⟨rfl, fun a => by first | rfl | kernel_rfl | (simp [go_sem])⟩
                case g7 =>
                  simp only [List.drop_succ_cons, List.drop_zero]
                  all_goals
                    go_wp2_with fail
                    go_meet
                    refine ⟨wo.heap.size, rfl, Nat.le_refl _, ?_, ?_⟩
                    · rw [H1.out, H2.out, H3.out, H4.out]
                      exact heap_at _ _ _ rfl
                    · repeat (first | assumption | exact Kept.refl _ _ | refine Kept.then_drew ?_ | refine Kept.then_drewN ?_ _ | refine Kept.then_alloc ?_ _)
              | true =>
                have H4 := Lib.hid (show isReply ⟨sp, fr, til, few, re⟩ y rep = memB y rep from by rw [HRP.out]; simp)
                refine wp_region_quiet_new 58 14 (Obj.cells #[.bool false, .bool false, .bool false, .bool false, .bool false] 150) (by kernel_rfl) (by kernel_rfl) (by kernel_rfl) (by kernel_rfl) (fun W => All wo W) (Kept.drew _ _) ((Kept.drew _ _).then_alloc _) ?aN4 ?g3 ?g4 (fun W hW => ?g5) ?g6 ?g7
                case g5 =>
                  obtain ⟨c0, c1, c2, c3, c4⟩ := HC.out W (hall2.trans hW)
                  rw [← HRB.out] at c4
                  have hcs := HCS.out W hW
                  have e0 := hcs.1
                  have e1 := hcs.2
                  clear hcs
                  simp only [List.take_succ_cons, List.take_zero]
                  iterate 26 (refine still_do (by kernel_rfl) (fun K hK => ?_); have HK := Lib.hid hK; clear hK; go_simp; refine HK.out _ ?_; clear HK K)
                  iterate 1 (refine still_do (by kernel_rfl) (fun K hK => ?_); have HK := Lib.hid hK; clear hK; go_simp; refine ⟨_, ((total_any (some ⟨bs, os, none⟩) m cy s W (HSY.out W hW) (by omega) HZ.out).mono fun _ _ ⟨h1, h2⟩ => ⟨h1, h2.symm⟩), HK.out _ ?_⟩; clear HK K)
                  rw [← HSUM.out]
                  iterate 9 (refine still_do (by kernel_rfl) (fun K hK => ?_); have HK := Lib.hid hK; clear hK; go_simp; refine HK.out _ ?_; clear HK K)
                  iterate 9 (refine still_skip (by kernel_rfl) (fun K hK => ?_); have HK := Lib.hid hK; clear hK; go_simp; refine HK.out _ ?_; clear HK K)
                  iterate 10 (refine still_do (by kernel_rfl) (fun K hK => ?_); have HK := Lib.hid hK; clear hK; go_simp; refine HK.out _ ?_; clear HK K)
                  iterate 1 (refine still_do (by kernel_rfl) (fun K hK => ?_); have HK := Lib.hid hK; clear hK; go_simp; refine ⟨_, ((contains_any ar lr cr rep y W (HRs.out W (hall6.trans hW)) hrl).mono fun _ _ ⟨h1, h2⟩ => ⟨h1, h2.symm⟩), HK.out _ ?_⟩; clear HK K)
                  iterate 2 (refine still_do (by kernel_rfl) (fun K hK => ?_); have HK := Lib.hid hK; clear hK; go_simp; refine HK.out _ ?_; clear HK K)
                  refine still_nil ?_
                  rfl
                case g3 => rfl
                case g4 => rfl
                case g6 =>
                  intro o ho
                  obtain rfl := Option.some.inj ho
                  exact ⟨rfl, fun a => by first | rfl | kernel_rfl | (simp [go_sem])⟩
                case g7 =>
                  simp only [List.drop_succ_cons, List.drop_zero]
                  all_goals
                    go_wp2_with fail
                    go_meet
                    refine ⟨wo.heap.size, rfl, Nat.le_refl _, ?_, ?_⟩
                    · rw [H1.out, H2.out, H3.out, H4.out]
                      exact heap_at _ _ _ rfl
                    · repeat (first | assumption | exact Kept.refl _ _ | refine Kept.then_drew ?_ | refine Kept.then_drewN ?_ _ | refine Kept.then_alloc ?_ _)
          · have d1 : decide (0 < sp) = false := by simpa using g1
            have H1 := Lib.hid (show isSpread ⟨sp, fr, til, few, re⟩ s = false from by rw [isSpread]; simp [g1])
            by_cases g3 : fr * (m : Int) ≤ 10 * S
            · have d3 : decide (fr * (m : Int) ≤ 10 * S) = true := by simpa using g3
              have H2 := Lib.hid (show isMiddle ⟨sp, fr, til, few, re⟩ s = decide (10 * S < til * (m : Int)) from by rw [isMiddle, ← HM.out, ← HSUM.out]; simp [g2, g3])
              clear g3
              cases rb with
              | false =>
                have H4 := Lib.hid (show isReply ⟨sp, fr, til, few, re⟩ y rep = false from by rw [HRP.out]; rfl)
                refine wp_region_quiet_new 58 14 (Obj.cells #[.bool false, .bool false, .bool false, .bool false, .bool false] 150) (by kernel_rfl) (by kernel_rfl) (by kernel_rfl) (by kernel_rfl) (fun W => All wo W) (Kept.drew _ _) ((Kept.drew _ _).then_alloc _) ?aN5 ?g3 ?g4 (fun W hW => ?g5) ?g6 ?g7
                case g5 =>
                  obtain ⟨c0, c1, c2, c3, c4⟩ := HC.out W (hall2.trans hW)
                  rw [← HRB.out] at c4
                  simp only [List.take_succ_cons, List.take_zero]
                  iterate 4 (refine still_do (by kernel_rfl) (fun K hK => ?_); have HK := Lib.hid hK; clear hK; go_simp; refine HK.out _ ?_; clear HK K)
                  iterate 2 (refine still_skip (by kernel_rfl) (fun K hK => ?_); have HK := Lib.hid hK; clear hK; go_simp; refine HK.out _ ?_; clear HK K)
                  iterate 2 (refine still_do (by kernel_rfl) (fun K hK => ?_); have HK := Lib.hid hK; clear hK; go_simp; refine HK.out _ ?_; clear HK K)
                  iterate 13 (refine still_skip (by kernel_rfl) (fun K hK => ?_); have HK := Lib.hid hK; clear hK; go_simp; refine HK.out _ ?_; clear HK K)
                  iterate 5 (refine still_do (by kernel_rfl) (fun K hK => ?_); have HK := Lib.hid hK; clear hK; go_simp; refine HK.out _ ?_; clear HK K)
                  iterate 1 (refine still_do (by kernel_rfl) (fun K hK => ?_); have HK := Lib.hid hK; clear hK; go_simp; refine ⟨_, ((total_any ay m cy s W (HSY.out W hW) (by omega) HZ.out).mono fun _ _ ⟨h1, h2⟩ => ⟨h1, h2.symm⟩), HK.out _ ?_⟩; clear HK K)
                  rw [← HSUM.out]
                  iterate 10 (refine still_do (by kernel_rfl) (fun K hK => ?_); have HK := Lib.hid hK; clear hK; go_simp; refine HK.out _ ?_; clear HK K)
                  iterate 1 (refine still_do (by kernel_rfl) (fun K hK => ?_); have HK := Lib.hid hK; clear hK; go_simp; refine ⟨_, ((total_any ay m cy s W (HSY.out W hW) (by omega) HZ.out).mono fun _ _ ⟨h1, h2⟩ => ⟨h1, h2.symm⟩), HK.out _ ?_⟩; clear HK K)
                  rw [← HSUM.out]
                  iterate 15 (refine still_do (by kernel_rfl) (fun K hK => ?_); have HK := Lib.hid hK; clear hK; go_simp; refine HK.out _ ?_; clear HK K)
                  iterate 3 (refine still_skip (by kernel_rfl) (fun K hK => ?_); have HK := Lib.hid hK; clear hK; go_simp; refine HK.out _ ?_; clear HK K)
                  iterate 2 (refine still_do (by kernel_rfl) (fun K hK => ?_); have HK := Lib.hid hK; clear hK; go_simp; refine HK.out _ ?_; clear HK K)
                  refine still_nil ?_
                  rfl
                case g3 => rfl
                case g4 => rfl
                case g6 =>
                  intro o ho
                  obtain rfl := Option.some.inj ho
                  exact ⟨rfl, fun a => by first | rfl | kernel_rfl | (simp [go_sem])⟩
                case g7 =>
                  simp only [List.drop_succ_cons, List.drop_zero]
                  all_goals
                    go_wp2_with fail
                    go_meet
                    refine ⟨wo.heap.size, rfl, Nat.le_refl _, ?_, ?_⟩
                    · rw [H1.out, H2.out, H3.out, H4.out]
                      exact heap_at _ _ _ rfl
                    · repeat (first | assumption | exact Kept.refl _ _ | refine Kept.then_drew ?_ | refine Kept.then_drewN ?_ _ | refine Kept.then_alloc ?_ _)
              | true =>
                have H4 := Lib.hid (show isReply ⟨sp, fr, til, few, re⟩ y rep = memB y rep from by rw [HRP.out]; simp)
                refine wp_region_quiet_new 58 14 (Obj.cells #[.bool false, .bool false, .bool false, .bool false, .bool false] 150) (by kernel_rfl) (by kernel_rfl) (by kernel_rfl) (by kernel_rfl) (fun W => All wo W) (Kept.drew _ _) ((Kept.drew _ _).then_alloc _) ?aN6 ?g3 ?g4 (fun W hW => ?g5) ?g6 ?g7
                case g5 =>
                  obtain ⟨c0, c1, c2, c3, c4⟩ := HC.out W (hall2.trans hW)
                  rw [← HRB.out] at c4
                  simp only [List.take_succ_cons, List.take_zero]
                  iterate 4 (refine still_do (by kernel_rfl) (fun K hK => ?_); have HK := Lib.hid hK; clear hK; go_simp; refine HK.out _ ?_; clear HK K)
                  iterate 2 (refine still_skip (by kernel_rfl) (fun K hK => ?_); have HK := Lib.hid hK; clear hK; go_simp; refine HK.out _ ?_; clear HK K)
                  iterate 2 (refine still_do (by kernel_rfl) (fun K hK => ?_); have HK := Lib.hid hK; clear hK; go_simp; refine HK.out _ ?_; clear HK K)
                  iterate 13 (refine still_skip (by kernel_rfl) (fun K hK => ?_); have HK := Lib.hid hK; clear hK; go_simp; refine HK.out _ ?_; clear HK K)
                  iterate 5 (refine still_do (by kernel_rfl) (fun K hK => ?_); have HK := Lib.hid hK; clear hK; go_simp; refine HK.out _ ?_; clear HK K)
                  iterate 1 (refine still_do (by kernel_rfl) (fun K hK => ?_); have HK := Lib.hid hK; clear hK; go_simp; refine ⟨_, ((total_any ay m cy s W (HSY.out W hW) (by omega) HZ.out).mono fun _ _ ⟨h1, h2⟩ => ⟨h1, h2.symm⟩), HK.out _ ?_⟩; clear HK K)
                  rw [← HSUM.out]
                  iterate 10 (refine still_do (by kernel_rfl) (fun K hK => ?_); have HK := Lib.hid hK; clear hK; go_simp; refine HK.out _ ?_; clear HK K)
                  iterate 1 (refine still_do (by kernel_rfl) (fun K hK => ?_); have HK := Lib.hid hK; clear hK; go_simp; refine ⟨_, ((total_any ay m cy s W (HSY.out W hW) (by omega) HZ.out).mono fun _ _ ⟨h1, h2⟩ => ⟨h1, h2.symm⟩), HK.out _ ?_⟩; clear HK K)
                  rw [← HSUM.out]
                  iterate 17 (refine still_do (by kernel_rfl) (fun K hK => ?_); have HK := Lib.hid hK; clear hK; go_simp; refine HK.out _ ?_; clear HK K)
                  iterate 1 (refine still_do (by kernel_rfl) (fun K hK => ?_); have HK := Lib.hid hK; clear hK; go_simp; refine ⟨_, ((contains_any ar lr cr rep y W (HRs.out W (hall6.trans hW)) hrl).mono fun _ _ ⟨h1, h2⟩ => ⟨h1, h2.symm⟩), HK.out _ ?_⟩; clear HK K)
                  iterate 2 (refine still_do (by kernel_rfl) (fun K hK => ?_); have HK := Lib.hid hK; clear hK; go_simp; refine HK.out _ ?_; clear HK K)
                  refine still_nil ?_
                  rfl
                case g3 => rfl
                case g4 => rfl
                case g6 =>
                  intro o ho
                  obtain rfl := Option.some.inj ho
                  exact ⟨rfl, fun a => by first | rfl | kernel_rfl | (simp [go_sem])⟩
                case g7 =>
                  simp only [List.drop_succ_cons, List.drop_zero]
                  all_goals
                    go_wp2_with fail
                    go_meet
                    refine ⟨wo.heap.size, rfl, Nat.le_refl _, ?_, ?_⟩
                    · rw [H1.out, H2.out, H3.out, H4.out]
                      exact heap_at _ _ _ rfl
                    · repeat (first | assumption | exact Kept.refl _ _ | refine Kept.then_drew ?_ | refine Kept.then_drewN ?_ _ | refine Kept.then_alloc ?_ _)
            · have d3 : decide (fr * (m : Int) ≤ 10 * S) = false := by simpa using g3
              have H2 := Lib.hid (show isMiddle ⟨sp, fr, til, few, re⟩ s = false from by rw [isMiddle, ← HM.out, ← HSUM.out]; simp [g3])
              clear g3
              cases rb with
              | false =>
                have H4 := Lib.hid (show isReply ⟨sp, fr, til, few, re⟩ y rep = false from by rw [HRP.out]; rfl)
                refine wp_region_quiet_new 58 14 (Obj.cells #[.bool false, .bool false, .bool false, .bool false, .bool false] 150) (by kernel_rfl) (by kernel_rfl) (by kernel_rfl) (by kernel_rfl) (fun W => All wo W) (Kept.drew _ _) ((Kept.drew _ _).then_alloc _) ?aN7 ?g3 ?g4 (fun W hW => ?g5) ?g6 ?g7
                case g5 =>
                  obtain ⟨c0, c1, c2, c3, c4⟩ := HC.out W (hall2.trans hW)
                  rw [← HRB.out] at c4
                  simp only [List.take_succ_cons, List.take_zero]
                  iterate 4 (refine still_do (by kernel_rfl) (fun K hK => ?_); have HK := Lib.hid hK; clear hK; go_simp; refine HK.out _ ?_; clear HK K)
                  iterate 2 (refine still_skip (by kernel_rfl) (fun K hK => ?_); have HK := Lib.hid hK; clear hK; go_simp; refine HK.out _ ?_; clear HK K)
                  iterate 2 (refine still_do (by kernel_rfl) (fun K hK => ?_); have HK := Lib.hid hK; clear hK; go_simp; refine HK.out _ ?_; clear HK K)
                  iterate 13 (refine still_skip (by kernel_rfl) (fun K hK => ?_); have HK := Lib.hid hK; clear hK; go_simp; refine HK.out _ ?_; clear HK K)
                  iterate 5 (refine still_do (by kernel_rfl) (fun K hK => ?_); have HK := Lib.hid hK; clear hK; go_simp; refine HK.out _ ?_; clear HK K)
                  iterate 1 (refine still_do (by kernel_rfl) (fun K hK => ?_); have HK := Lib.hid hK; clear hK; go_simp; refine ⟨_, ((total_any ay m cy s W (HSY.out W hW) (by omega) HZ.out).mono fun _ _ ⟨h1, h2⟩ => ⟨h1, h2.symm⟩), HK.out _ ?_⟩; clear HK K)
                  rw [← HSUM.out]
                  iterate 9 (refine still_do (by kernel_rfl) (fun K hK => ?_); have HK := Lib.hid hK; clear hK; go_simp; refine HK.out _ ?_; clear HK K)
                  iterate 9 (refine still_skip (by kernel_rfl) (fun K hK => ?_); have HK := Lib.hid hK; clear hK; go_simp; refine HK.out _ ?_; clear HK K)
                  iterate 8 (refine still_do (by kernel_rfl) (fun K hK => ?_); have HK := Lib.hid hK; clear hK; go_simp; refine HK.out _ ?_; clear HK K)
                  iterate 3 (refine still_skip (by kernel_rfl) (fun K hK => ?_); have HK := Lib.hid hK; clear hK; go_simp; refine HK.out _ ?_; clear HK K)
                  iterate 2 (refine still_do (by kernel_rfl) (fun K hK => ?_); have HK := Lib.hid hK; clear hK; go_simp; refine HK.out _ ?_; clear HK K)
                  refine still_nil ?_
                  rfl
                case g3 => rfl
                case g4 => rfl
                case g6 =>
                  intro o ho
                  obtain rfl := Option.some.inj ho
                  exact ⟨rfl, fun a => by first | rfl | kernel_rfl | (simp [go_sem])⟩
                case g7 =>
                  simp only [List.drop_succ_cons, List.drop_zero]
                  all_goals
                    go_wp2_with fail
                    go_meet
                    refine ⟨wo.heap.size, rfl, Nat.le_refl _, ?_, ?_⟩
                    · rw [H1.out, H2.out, H3.out, H4.out]
                      exact heap_at _ _ _ rfl
                    · repeat (first | assumption | exact Kept.refl _ _ | refine Kept.then_drew ?_ | refine Kept.then_drewN ?_ _ | refine Kept.then_alloc ?_ _)
              | true =>
                have H4 := Lib.hid (show isReply ⟨sp, fr, til, few, re⟩ y rep = memB y rep from by rw [HRP.out]; simp)
                refine wp_region_quiet_new 58 14 (Obj.cells #[.bool false, .bool false, .bool false, .bool false, .bool false] 150) (by kernel_rfl) (by kernel_rfl) (by kernel_rfl) (by kernel_rfl) (fun W => All wo W) (Kept.drew _ _) ((Kept.drew _ _).then_alloc _) ?aN8 ?g3 ?g4 (fun W hW => ?g5) ?g6 ?g7
                case g5 =>
                  obtain ⟨c0, c1, c2, c3, c4⟩ := HC.out W (hall2.trans hW)
                  rw [← HRB.out] at c4
                  simp only [List.take_succ_cons, List.take_zero]
                  iterate 4 (refine still_do (by kernel_rfl) (fun K hK => ?_); have HK := Lib.hid hK; clear hK; go_simp; refine HK.out _ ?_; clear HK K)
                  iterate 2 (refine still_skip (by kernel_rfl) (fun K hK => ?_); have HK := Lib.hid hK; clear hK; go_simp; refine HK.out _ ?_; clear HK K)
                  iterate 2 (refine still_do (by kernel_rfl) (fun K hK => ?_); have HK := Lib.hid hK; clear hK; go_simp; refine HK.out _ ?_; clear HK K)
                  iterate 13 (refine still_skip (by kernel_rfl) (fun K hK => ?_); have HK := Lib.hid hK; clear hK; go_simp; refine HK.out _ ?_; clear HK K)
                  iterate 5 (refine still_do (by kernel_rfl) (fun K hK => ?_); have HK := Lib.hid hK; clear hK; go_simp; refine HK.out _ ?_; clear HK K)
                  iterate 1 (refine still_do (by kernel_rfl) (fun K hK => ?_); have HK := Lib.hid hK; clear hK; go_simp; refine ⟨_, ((total_any ay m cy s W (HSY.out W hW) (by omega) HZ.out).mono fun _ _ ⟨h1, h2⟩ => ⟨h1, h2.symm⟩), HK.out _ ?_⟩; clear HK K)
                  rw [← HSUM.out]
                  iterate 9 (refine still_do (by kernel_rfl) (fun K hK => ?_); have HK := Lib.hid hK; clear hK; go_simp; refine HK.out _ ?_; clear HK K)
                  iterate 9 (refine still_skip (by kernel_rfl) (fun K hK => ?_); have HK := Lib.hid hK; clear hK; go_simp; refine HK.out _ ?_; clear HK K)
                  iterate 10 (refine still_do (by kernel_rfl) (fun K hK => ?_); have HK := Lib.hid hK; clear hK; go_simp; refine HK.out _ ?_; clear HK K)
                  iterate 1 (refine still_do (by kernel_rfl) (fun K hK => ?_); have HK := Lib.hid hK; clear hK; go_simp; refine ⟨_, ((contains_any ar lr cr rep y W (HRs.out W (hall6.trans hW)) hrl).mono fun _ _ ⟨h1, h2⟩ => ⟨h1, h2.symm⟩), HK.out _ ?_⟩; clear HK K)
                  iterate 2 (refine still_do (by kernel_rfl) (fun K hK => ?_); have HK := Lib.hid hK; clear hK; go_simp; refine HK.out _ ?_; clear HK K)
                  refine still_nil ?_
                  rfl
                case g3 => rfl
                case g4 => rfl
                case g6 =>
                  intro o ho
                  obtain rfl := Option.some.inj ho
                  exact ⟨rfl, fun a => by first | rfl | kernel_rfl | (simp [go_sem])⟩
                case g7 =>
                  simp only [List.drop_succ_cons, List.drop_zero]
                  all_goals
                    go_wp2_with fail
                    go_meet
                    refine ⟨wo.heap.size, rfl, Nat.le_refl _, ?_, ?_⟩
                    · rw [H1.out, H2.out, H3.out, H4.out]
                      exact heap_at _ _ _ rfl
                    · repeat (first | assumption | exact Kept.refl _ _ | refine Kept.then_drew ?_ | refine Kept.then_drewN ?_ _ | refine Kept.then_alloc ?_ _)
        · have d2' : decide ((0 : Int) < (m : Int)) = false := by simp; omega
          have H1 := Lib.hid (show isSpread ⟨sp, fr, til, few, re⟩ s = false from by rw [isSpread, ← HM.out]; simp [g2])
          have H2 := Lib.hid (show isMiddle ⟨sp, fr, til, few, re⟩ s = false from by rw [isMiddle, ← HM.out]; simp [g2])
          by_cases g1 : 0 < sp
          · have d1 : decide (0 < sp) = true := by simpa using g1
            cases rb with
            | false =>
              have H4 := Lib.hid (show isReply ⟨sp, fr, til, few, re⟩ y rep = false from by rw [HRP.out]; rfl)
              refine wp_region_quiet_new 58 14 (Obj.cells #[.bool false, .bool false, .bool false, .bool false, .bool false] 150) (by kernel_rfl) (by kernel_rfl) (by kernel_rfl) (by kernel_rfl) (fun W => All wo W) (Kept.drew _ _) ((Kept.drew _ _).then_alloc _) ?aN9 ?g3 ?g4 (fun W hW => ?g5) ?g6 ?g7
              case g5 =>
                obtain ⟨c0, c1, c2, c3, c4⟩ := HC.out W (hall2.trans hW)
                rw [← HRB.out] at c4
                simp only [List.take_succ_cons, List.take_zero]
                iterate 8 (refine still_do (by kernel_rfl) (fun K hK => ?_); have HK := Lib.hid hK; clear hK; go_simp; refine HK.out _ ?_; clear HK K)
                iterate 13 (refine still_skip (by kernel_rfl) (fun K hK => ?_); have HK := Lib.hid hK; clear hK; go_simp; refine HK.out _ ?_; clear HK K)
                iterate 4 (refine still_do (by kernel_rfl) (fun K hK => ?_); have HK := Lib.hid hK; clear hK; go_simp; refine HK.out _ ?_; clear HK K)
                iterate 9 (refine still_skip (by kernel_rfl) (fun K hK => ?_); have HK := Lib.hid hK; clear hK; go_simp; refine HK.out _ ?_; clear HK K)
                iterate 2 (refine still_do (by kernel_rfl) (fun K hK => ?_); have HK := Lib.hid hK; clear hK; go_simp; refine HK.out _ ?_; clear HK K)
                iterate 9 (refine still_skip (by kernel_rfl) (fun K hK => ?_); have HK := Lib.hid hK; clear hK; go_simp; refine HK.out _ ?_; clear HK K)
                iterate 8 (refine still_do (by kernel_rfl) (fun K hK => ?_); have HK := Lib.hid hK; clear hK; go_simp; refine HK.out _ ?_; clear HK K)
                iterate 3 (refine still_skip (by kernel_rfl) (fun K hK => ?_); have HK := Lib.hid hK; clear hK; go_simp; refine HK.out _ ?_; clear HK K)
                iterate 2 (refine still_do (by kernel_rfl) (fun K hK => ?_); have HK := Lib.hid hK; clear hK; go_simp; refine HK.out _ ?_; clear HK K)
                refine still_nil ?_
                rfl
              case g3 => rfl
              case g4 => rfl
              case g6 =>
                intro o ho
                obtain rfl := Option.some.inj ho
                exact ⟨rfl, fun a => by first | rfl | kernel_rfl | (simp [go_sem])⟩
              case g7 =>
                simp only [List.drop_succ_cons, List.drop_zero]
                all_goals
                  go_wp2_with fail
                  go_meet
                  refine ⟨wo.heap.size, rfl, Nat.le_refl _, ?_, ?_⟩
                  · rw [H1.out, H2.out, H3.out, H4.out]
                    exact heap_at _ _ _ rfl
                  · repeat (first | assumption | exact Kept.refl _ _ | refine Kept.then_drew ?_ | refine Kept.then_drewN ?_ _ | refine Kept.then_alloc ?_ _)
            | true =>
              have H4 := Lib.hid (show isReply ⟨sp, fr, til, few, re⟩ y rep = memB y rep from by rw [HRP.out]; simp)
              refine wp_region_quiet_new 58 14 (Obj.cells #[.bool false, .bool false, .bool false, .bool false, .bool false] 150) (by kernel_rfl) (by kernel_rfl) (by kernel_rfl) (by kernel_rfl) (fun W => All wo W) (Kept.drew _ _) ((Kept.drew _ _).then_alloc _) ?aN10 ?g3 ?g4 (fun W hW => ?g5) ?g6 ?g7
              case g5 =>
                obtain ⟨c0, c1, c2, c3, c4⟩ := HC.out W (hall2.trans hW)
                rw [← HRB.out] at c4
                simp only [List.take_succ_cons, List.take_zero]
                iterate 8 (refine still_do (by kernel_rfl) (fun K hK => ?_); have HK := Lib.hid hK; clear hK; go_simp; refine HK.out _ ?_; clear HK K)
                iterate 13 (refine still_skip (by kernel_rfl) (fun K hK => ?_); have HK := Lib.hid hK; clear hK; go_simp; refine HK.out _ ?_; clear HK K)
                iterate 4 (refine still_do (by kernel_rfl) (fun K hK => ?_); have HK := Lib.hid hK; clear hK; go_simp; refine HK.out _ ?_; clear HK K)
                iterate 9 (refine still_skip (by kernel_rfl) (fun K hK => ?_); have HK := Lib.hid hK; clear hK; go_simp; refine HK.out _ ?_; clear HK K)
                iterate 2 (refine still_do (by kernel_rfl) (fun K hK => ?_); have HK := Lib.hid hK; clear hK; go_simp; refine HK.out _ ?_; clear HK K)
                iterate 9 (refine still_skip (by kernel_rfl) (fun K hK => ?_); have HK := Lib.hid hK; clear hK; go_simp; refine HK.out _ ?_; clear HK K)
                iterate 10 (refine still_do (by kernel_rfl) (fun K hK => ?_); have HK := Lib.hid hK; clear hK; go_simp; refine HK.out _ ?_; clear HK K)
                iterate 1 (refine still_do (by kernel_rfl) (fun K hK => ?_); have HK := Lib.hid hK; clear hK; go_simp; refine ⟨_, ((contains_any ar lr cr rep y W (HRs.out W (hall6.trans hW)) hrl).mono fun _ _ ⟨h1, h2⟩ => ⟨h1, h2.symm⟩), HK.out _ ?_⟩; clear HK K)
                iterate 2 (refine still_do (by kernel_rfl) (fun K hK => ?_); have HK := Lib.hid hK; clear hK; go_simp; refine HK.out _ ?_; clear HK K)
                refine still_nil ?_
                rfl
              case g3 => rfl
              case g4 => rfl
              case g6 =>
                intro o ho
                obtain rfl := Option.some.inj ho
                exact ⟨rfl, fun a => by first | rfl | kernel_rfl | (simp [go_sem])⟩
              case g7 =>
                simp only [List.drop_succ_cons, List.drop_zero]
                all_goals
                  go_wp2_with fail
                  go_meet
                  refine ⟨wo.heap.size, rfl, Nat.le_refl _, ?_, ?_⟩
                  · rw [H1.out, H2.out, H3.out, H4.out]
                    exact heap_at _ _ _ rfl
                  · repeat (first | assumption | exact Kept.refl _ _ | refine Kept.then_drew ?_ | refine Kept.then_drewN ?_ _ | refine Kept.then_alloc ?_ _)
          · have d1 : decide (0 < sp) = false := by simpa using g1
            cases rb with
            | false =>
              have H4 := Lib.hid (show isReply ⟨sp, fr, til, few, re⟩ y rep = false from by rw [HRP.out]; rfl)
              refine wp_region_quiet_new 58 14 (Obj.cells #[.bool false, .bool false, .bool false, .bool false, .bool false] 150) (by kernel_rfl) (by kernel_rfl) (by kernel_rfl) (by kernel_rfl) (fun W => All wo W) (Kept.drew _ _) ((Kept.drew _ _).then_alloc _) ?aN11 ?g3 ?g4 (fun W hW => ?g5) ?g6 ?g7
              case g5 =>
                obtain ⟨c0, c1, c2, c3, c4⟩ := HC.out W (hall2.trans hW)
                rw [← HRB.out] at c4
                simp only [List.take_succ_cons, List.take_zero]
                iterate 4 (refine still_do (by kernel_rfl) (fun K hK => ?_); have HK := Lib.hid hK; clear hK; go_simp; refine HK.out _ ?_; clear HK K)
                iterate 2 (refine still_skip (by kernel_rfl) (fun K hK => ?_); have HK := Lib.hid hK; clear hK; go_simp; refine HK.out _ ?_; clear HK K)
                iterate 2 (refine still_do (by kernel_rfl) (fun K hK => ?_); have HK := Lib.hid hK; clear hK; go_simp; refine HK.out _ ?_; clear HK K)
                iterate 13 (refine still_skip (by kernel_rfl) (fun K hK => ?_); have HK := Lib.hid hK; clear hK; go_simp; refine HK.out _ ?_; clear HK K)
                iterate 4 (refine still_do (by kernel_rfl) (fun K hK => ?_); have HK := Lib.hid hK; clear hK; go_simp; refine HK.out _ ?_; clear HK K)
                iterate 9 (refine still_skip (by kernel_rfl) (fun K hK => ?_); have HK := Lib.hid hK; clear hK; go_simp; refine HK.out _ ?_; clear HK K)
                iterate 2 (refine still_do (by kernel_rfl) (fun K hK => ?_); have HK := Lib.hid hK; clear hK; go_simp; refine HK.out _ ?_; clear HK K)
                iterate 9 (refine still_skip (by kernel_rfl) (fun K hK => ?_); have HK := Lib.hid hK; clear hK; go_simp; refine HK.out _ ?_; clear HK K)
                iterate 8 (refine still_do (by kernel_rfl) (fun K hK => ?_); have HK := Lib.hid hK; clear hK; go_simp; refine HK.out _ ?_; clear HK K)
                iterate 3 (refine still_skip (by kernel_rfl) (fun K hK => ?_); have HK := Lib.hid hK; clear hK; go_simp; refine HK.out _ ?_; clear HK K)
                iterate 2 (refine still_do (by kernel_rfl) (fun K hK => ?_); have HK := Lib.hid hK; clear hK; go_simp; refine HK.out _ ?_; clear HK K)
                refine still_nil ?_
                rfl
              case g3 => rfl
              case g4 => rfl
              case g6 =>
                intro o ho
                obtain rfl := Option.some.inj ho
                exact ⟨rfl, fun a => by first | rfl | kernel_rfl | (simp [go_sem])⟩
              case g7 =>
                simp only [List.drop_succ_cons, List.drop_zero]
                all_goals
                  go_wp2_with fail
                  go_meet
                  refine ⟨wo.heap.size, rfl, Nat.le_refl _, ?_, ?_⟩
                  · rw [H1.out, H2.out, H3.out, H4.out]
                    exact heap_at _ _ _ rfl
                  · repeat (first | assumption | exact Kept.refl _ _ | refine Kept.then_drew ?_ | refine Kept.then_drewN ?_ _ | refine Kept.then_alloc ?_ _)
            | true =>
              have H4 := Lib.hid (show isReply ⟨sp, fr, til, few, re⟩ y rep = memB y rep from by rw [HRP.out]; simp)
              refine wp_region_quiet_new 58 14 (Obj.cells #[.bool false, .bool false, .bool false, .bool false, .bool false] 150) (by kernel_rfl) (by kernel_rfl) (by kernel_rfl) (by kernel_rfl) (fun W => All wo W) (Kept.drew _ _) ((Kept.drew _ _).then_alloc _) ?aN12 ?g3 ?g4 (fun W hW => ?g5) ?g6 ?g7
              case g5 =>
                obtain ⟨c0, c1, c2, c3, c4⟩ := HC.out W (hall2.trans hW)
                rw [← HRB.out] at c4
                simp only [List.take_succ_cons, List.take_zero]
                iterate 4 (refine still_do (by kernel_rfl) (fun K hK => ?_); have HK := Lib.hid hK; clear hK; go_simp; refine HK.out _ ?_; clear HK K)
                iterate 2 (refine still_skip (by kernel_rfl) (fun K hK => ?_); have HK := Lib.hid hK; clear hK; go_simp; refine HK.out _ ?_; clear HK K)
                iterate 2 (refine still_do (by kernel_rfl) (fun K hK => ?_); have HK := Lib.hid hK; clear hK; go_simp; refine HK.out _ ?_; clear HK K)
                iterate 13 (refine still_skip (by kernel_rfl) (fun K hK => ?_); have HK := Lib.hid hK; clear hK; go_simp; refine HK.out _ ?_; clear HK K)
                iterate 4 (refine still_do (by kernel_rfl) (fun K hK => ?_); have HK := Lib.hid hK; clear hK; go_simp; refine HK.out _ ?_; clear HK K)
                iterate 9 (refine still_skip (by kernel_rfl) (fun K hK => ?_); have HK := Lib.hid hK; clear hK; go_simp; refine HK.out _ ?_; clear HK K)
                iterate 2 (refine still_do (by kernel_rfl) (fun K hK => ?_); have HK := Lib.hid hK; clear hK; go_simp; refine HK.out _ ?_; clear HK K)
                iterate 9 (refine still_skip (by kernel_rfl) (fun K hK => ?_); have HK := Lib.hid hK; clear hK; go_simp; refine HK.out _ ?_; clear HK K)
                iterate 10 (refine still_do (by kernel_rfl) (fun K hK => ?_); have HK := Lib.hid hK; clear hK; go_simp; refine HK.out _ ?_; clear HK K)
                iterate 1 (refine still_do (by kernel_rfl) (fun K hK => ?_); have HK := Lib.hid hK; clear hK; go_simp; refine ⟨_, ((contains_any ar lr cr rep y W (HRs.out W (hall6.trans hW)) hrl).mono fun _ _ ⟨h1, h2⟩ => ⟨h1, h2.symm⟩), HK.out _ ?_⟩; clear HK K)
                iterate 2 (refine still_do (by kernel_rfl) (fun K hK => ?_); have HK := Lib.hid hK; clear hK; go_simp; refine HK.out _ ?_; clear HK K)
                refine still_nil ?_
                rfl
              case g3 => rfl
              case g4 => rfl
              case g6 =>
                intro o ho
                obtain rfl := Option.some.inj ho
                exact ⟨rfl, fun a => by first | rfl | kernel_rfl | (simp [go_sem])⟩
              case g7 =>
                simp only [List.drop_succ_cons, List.drop_zero]
                all_goals
                  go_wp2_with fail
                  go_meet
                  refine ⟨wo.heap.size, rfl, Nat.le_refl _, ?_, ?_⟩
                  · rw [H1.out, H2.out, H3.out, H4.out]
                    exact heap_at _ _ _ rfl
                  · repeat (first | assumption | exact Kept.refl _ _ | refine Kept.then_drew ?_ | refine Kept.then_drewN ?_ _ | refine Kept.then_alloc ?_ _)
      case rest =>
        obtain ⟨hb, rfl, hhb, hcells, hx⟩ := hcut
        obtain ⟨w2, rfl⟩ : ∃ x : World, x = wc := ⟨_, rfl⟩
        clear c0 c1 c2 c3 c4
        have hsx := hx.size
        obtain ⟨A, hA⟩ : ∃ A, A = isSpread ⟨sp, fr, til, few, re⟩ s := ⟨_, rfl⟩
        obtain ⟨B, hB⟩ : ∃ B, B = isMiddle ⟨sp, fr, til, few, re⟩ s := ⟨_, rfl⟩
        obtain ⟨C, hC⟩ : ∃ C, C = isFew ⟨sp, fr, til, few, re⟩ s := ⟨_, rfl⟩
        obtain ⟨D, hD⟩ : ∃ D, D = isReply ⟨sp, fr, til, few, re⟩ y rep := ⟨_, rfl⟩
        rw [← hA, ← hB, ← hC, ← hD] at hcells
        have HWY2 := Lib.hid (show whyOf ⟨sp, fr, til, few, re⟩ s y rep = whyB A B C D from by rw [hA, hB, hC, hD]; exact HWY.out)
        clear hA hB hC hD HWY
        have e0 := cell_at (i := 0) hcells rfl
        have e1 := cell_at (i := 1) hcells rfl
        have e2 := cell_at (i := 2) hcells rfl
        have e3 := cell_at (i := 3) hcells rfl
        have e4 := cell_at (i := 4) hcells rfl
        clear hcells
        have ix0 : ∀ W : World, (Instr.index 150 (.agg #[.bool false, .bool A, .bool B, .bool C, .bool D]) (.int .i64 0)).run Tryz.prog W = .ok (.bool false) W := fun W => by kernel_rfl
        have ix1 : ∀ W : World, (Instr.index 150 (.agg #[.bool false, .bool A, .bool B, .bool C, .bool D]) (.int .i64 1)).run Tryz.prog W = .ok (.bool A) W := fun W => by kernel_rfl
        have ix2 : ∀ W : World, (Instr.index 150 (.agg #[.bool false, .bool A, .bool B, .bool C, .bool D]) (.int .i64 2)).run Tryz.prog W = .ok (.bool B) W := fun W => by kernel_rfl
        have ix3 : ∀ W : World, (Instr.index 150 (.agg #[.bool false, .bool A, .bool B, .bool C, .bool D]) (.int .i64 3)).run Tryz.prog W = .ok (.bool C) W := fun W => by kernel_rfl
        have ix4 : ∀ W : World, (Instr.index 150 (.agg #[.bool false, .bool A, .bool B, .bool C, .bool D]) (.int .i64 4)).run Tryz.prog W = .ok (.bool D) W := fun W => by kernel_rfl
        go_wp2_with fail
        go_loopw [15, 16, 17, 88] (fun v _ _ i wr => ∃ k2 : Nat, k2 ≤ 5 ∧ i = .int .i64 k2 ∧ WhyAt w2 (whyN A B C D k2) v wr) (fun _ _ _ i _ => 5 - (intOf i).toNat)
        case atStart => exact ⟨0, by omega, rfl, Acc.nil _ _ _ _ _ _, Kept.refl _ _⟩
        case round =>
          obtain ⟨k2, hk2, rfl, hacc, hkw⟩ := hrel
          obtain ⟨w3, rfl⟩ : ∃ x : World, x = wr := ⟨_, rfl⟩
          obtain ⟨ws, hws⟩ : ∃ ws, ws = whyN A B C D k2 := ⟨_, rfl⟩
          have hwl : ws.length ≤ 4 := by rw [hws]; exact whyN_len _ _ _ _ _
          rw [← hws] at hacc
          have hsw3 := hkw.size
          clear e0 e1 e2 e3 e4
          have h5 : k2 = 0 ∨ k2 = 1 ∨ k2 = 2 ∨ k2 = 3 ∨ k2 = 4 ∨ k2 = 5 := by omega
          rcases h5 with rfl | rfl | rfl | rfl | rfl | rfl
          · have HWS := Lib.hid hws
            clear hws
            go_wp2_with fail
            go_roundw
            case rel => exact ⟨1, by omega, rfl, by rw [HWS.out] at hacc; exact hacc, hkw⟩
            case measure => simp [intOf]
          · obtain ⟨pa, pc, rfl, -⟩ := hacc.form
            cases A with
            | false =>
              have HWS := Lib.hid hws
              clear hws
              go_wp2_with fail
              go_roundw
              case rel => exact ⟨2, by omega, rfl, by rw [show whyN false B C D 2 = ws from by rw [HWS.out]; simp [whyN]]; exact hacc, hkw⟩
              case measure => simp [intOf]
            | true =>
              have HWS := Lib.hid hws
              have hlb : ws.length + 1 ≤ 1000000000 := by omega
              clear hws
              have hkr := Lib.hid (fun k (hk : (Value.slice pa ws.length pc).ownBlock = some k) => (hacc.lt k hk).1)
              go_wp2_with (at_builtin; refine wp_append1 RInt.ok _ rfl _ _ 22 rfl w2.heap.size 3 (.int .i64 0) 1 8 Tryz.underlying22 (by kernel_rfl) rfl (by decide) (fun _ => False) _ ws rfl (hacc.keepAll RInt.ok (Kept.alloc _ _ _)) ⟨_, 0, none⟩ 1 [.int .i64 1] rfl rfl (World.news_of_block (cs := #[.int .i64 1]) (heap_alloc_new w3 _)) (by simp [Value.oneCell']) 1 rfl hlb (by decide) (by simp; omega) ?_)
              intro p' c' w9 hacc9 hg9 _
              have hw9 : All w2 w9 := (hkw.then_alloc _).grown hg9 (fun k hk => Or.inl (hkr.out k hk))
              clear hg9 hacc
              go_wp2_with fail
              go_roundw
              case rel => exact ⟨2, by omega, rfl, by rw [show whyN true B C D 2 = ws ++ [1] from by rw [HWS.out]; simp [whyN]]; exact hacc9, hw9⟩
              case measure => simp [intOf]
          · obtain ⟨pa, pc, rfl, -⟩ := hacc.form
            cases B with
            | false =>
              have HWS := Lib.hid hws
              clear hws
              go_wp2_with fail
              go_roundw
              case rel => exact ⟨3, by omega, rfl, by rw [show whyN A false C D 3 = ws from by rw [HWS.out]; simp [whyN]]; exact hacc, hkw⟩
              case measure => simp [intOf]
            | true =>
              have HWS := Lib.hid hws
              have hlb : ws.length + 1 ≤ 1000000000 := by omega
              clear hws
              have hkr := Lib.hid (fun k (hk : (Value.slice pa ws.length pc).ownBlock = some k) => (hacc.lt k hk).1)
              go_wp2_with (at_builtin; refine wp_append1 RInt.ok _ rfl _ _ 22 rfl w2.heap.size 3 (.int .i64 0) 1 8 Tryz.underlying22 (by kernel_rfl) rfl (by decide) (fun _ => False) _ ws rfl (hacc.keepAll RInt.ok (Kept.alloc _ _ _)) ⟨_, 0, none⟩ 1 [.int .i64 2] rfl rfl (World.news_of_block (cs := #[.int .i64 2]) (heap_alloc_new w3 _)) (by simp [Value.oneCell']) 2 rfl hlb (by decide) (by simp; omega) ?_)
              intro p' c' w9 hacc9 hg9 _
              have hw9 : All w2 w9 := (hkw.then_alloc _).grown hg9 (fun k hk => Or.inl (hkr.out k hk))
              clear hg9 hacc
              go_wp2_with fail
              go_roundw
              case rel => exact ⟨3, by omega, rfl, by rw [show whyN A true C D 3 = ws ++ [2] from by rw [HWS.out]; simp [whyN]]; exact hacc9, hw9⟩
              case measure => simp [intOf]
          · obtain ⟨pa, pc, rfl, -⟩ := hacc.form
            cases C with
            | false =>
              have HWS := Lib.hid hws
              clear hws
              go_wp2_with fail
              go_roundw
              case rel => exact ⟨4, by omega, rfl, by rw [show whyN A B false D 4 = ws from by rw [HWS.out]; simp [whyN]]; exact hacc, hkw⟩
              case measure => simp [intOf]
            | true =>
              have HWS := Lib.hid hws
              have hlb : ws.length + 1 ≤ 1000000000 := by omega
              clear hws
              have hkr := Lib.hid (fun k (hk : (Value.slice pa ws.length pc).ownBlock = some k) => (hacc.lt k hk).1)
              go_wp2_with (at_builtin; refine wp_append1 RInt.ok _ rfl _ _ 22 rfl w2.heap.size 3 (.int .i64 0) 1 8 Tryz.underlying22 (by kernel_rfl) rfl (by decide) (fun _ => False) _ ws rfl (hacc.keepAll RInt.ok (Kept.alloc _ _ _)) ⟨_, 0, none⟩ 1 [.int .i64 3] rfl rfl (World.news_of_block (cs := #[.int .i64 3]) (heap_alloc_new w3 _)) (by simp [Value.oneCell']) 3 rfl hlb (by decide) (by simp; omega) ?_)
              intro p' c' w9 hacc9 hg9 _
              have hw9 : All w2 w9 := (hkw.then_alloc _).grown hg9 (fun k hk => Or.inl (hkr.out k hk))
              clear hg9 hacc
              go_wp2_with fail
              go_roundw
              case rel => exact ⟨4, by omega, rfl, by rw [show whyN A B true D 4 = ws ++ [3] from by rw [HWS.out]; simp [whyN]]; exact hacc9, hw9⟩
              case measure => simp [intOf]
          · obtain ⟨pa, pc, rfl, -⟩ := hacc.form
            cases D with
            | false =>
              have HWS := Lib.hid hws
              clear hws
              go_wp2_with fail
              go_roundw
              case rel => exact ⟨5, by omega, rfl, by rw [show whyN A B C false 5 = ws from by rw [HWS.out]; simp [whyN, whyB]]; exact hacc, hkw⟩
              case measure => simp [intOf]
            | true =>
              have HWS := Lib.hid hws
              have hlb : ws.length + 1 ≤ 1000000000 := by omega
              clear hws
              have hkr := Lib.hid (fun k (hk : (Value.slice pa ws.length pc).ownBlock = some k) => (hacc.lt k hk).1)
              go_wp2_with (at_builtin; refine wp_append1 RInt.ok _ rfl _ _ 22 rfl w2.heap.size 3 (.int .i64 0) 1 8 Tryz.underlying22 (by kernel_rfl) rfl (by decide) (fun _ => False) _ ws rfl (hacc.keepAll RInt.ok (Kept.alloc _ _ _)) ⟨_, 0, none⟩ 1 [.int .i64 4] rfl rfl (World.news_of_block (cs := #[.int .i64 4]) (heap_alloc_new w3 _)) (by simp [Value.oneCell']) 4 rfl hlb (by decide) (by simp; omega) ?_)
              intro p' c' w9 hacc9 hg9 _
              have hw9 : All w2 w9 := (hkw.then_alloc _).grown hg9 (fun k hk => Or.inl (hkr.out k hk))
              clear hg9 hacc
              go_wp2_with fail
              go_roundw
              case rel => exact ⟨5, by omega, rfl, by rw [show whyN A B C true 5 = ws ++ [4] from by rw [HWS.out]; simp [whyN, whyB]]; exact hacc9, hw9⟩
              case measure => simp [intOf]
          · have HWS := Lib.hid (show ws = whyB A B C D from hws)
            clear hws
            obtain ⟨pa, pc, rfl, -⟩ := hacc.form
            have hx3 := hx.trans hkw
            have hout2 := hout.keepAll RCalled.ok hx3
            obtain ⟨outs, houts⟩ : ∃ outs, outs = talksOf ⟨sp, fr, til, few, re⟩ f rep (ps.take k) := ⟨_, rfl⟩
            rw [← houts] at hout hout2
            have HO := Lib.hid houts
            have holn : outs.length ≤ 1000000 := by rw [houts]; have := talksOf_len (r := ⟨sp, fr, til, few, re⟩) (f := f) (rep := rep) (ps.take k); have := List.length_take_le k ps; omega
            clear houts
            obtain ⟨po, pd, rfl, -⟩ := hout2.form
            by_cases hw0 : ws = []
            · have hn := Lib.hid (show talksOf ⟨sp, fr, til, few, re⟩ f rep (ps.take (k + 1)) = outs from by rw [HO.out]; exact talksOf_none Htake.out (by rw [← HS.out, HWY2.out, ← HWS.out]; exact hw0))
              subst hw0
              simp only [List.length_nil]
              go_wp2_with fail
              go_roundw
              case rel => exact ⟨k + 1, by omega, by go_num, by rw [hn.out]; exact hout2, hall2.trans hx3⟩
              case measure => simp [intOf]; omega
            · have hwp : 0 < ws.length := List.length_pos_iff.2 hw0
              have d : decide ((0 : Int) < (ws.length : Int)) = true := by simp; omega
              have hn := Lib.hid (show talksOf ⟨sp, fr, til, few, re⟩ f rep (ps.take (k + 1)) = outs ++ [(y, ws)] from by rw [HO.out, talksOf_some Htake.out (by rw [← HS.out, HWY2.out, ← HWS.out]; exact hw0), ← HS.out, HWY2.out, ← HWS.out])
              obtain ⟨pa', pc', heq, hslw⟩ := hacc.sl RInt.ok (by decide) (G := fun j => w6.heap.size ≤ j ∧ (Value.slice po outs.length pd).ownBlock ≠ some j) (fun _ h => h.elim) (fun j hj => ⟨by have := (hacc.lt j hj).1; omega, fun e => by have h1 := (hout.lt j e).2; have h2 := (hacc.lt j hj).1; omega⟩)
              injection heq with e1 e2 e3
              subst e1 e3
              clear hw0 e2
              have hlb : outs.length + 1 ≤ 1000000000 := by omega
              have hkr := Lib.hid (fun k (hk : (Value.slice po outs.length pd).ownBlock = some k) => (hout2.lt k hk).1)
              go_wp2_with (at_builtin; refine wp_append1 RCalled.ok _ rfl _ _ 71 rfl w6.heap.size 77 (.agg #[.string ⟨#[]⟩, .slice none 0 0]) 2 40 Tryz.underlying71 (by kernel_rfl) rfl (by decide) (fun j => w6.heap.size ≤ j) _ outs rfl (hout2.keepAll RCalled.ok (Kept.alloc _ _ _)) ⟨_, 0, none⟩ 1 [.string y, .slice pa ws.length pc] rfl rfl (World.news_of_block (cs := #[.string y, .slice pa ws.length pc]) (heap_alloc_new w3 _)) (by simp [Value.oneCell']) (y, ws) ⟨pa, ws.length, pc, rfl, hyz, hwl, hslw.keep RInt.ok (Kept.alloc _ _ _)⟩ hlb (by decide) (by simp; omega) ?_)
              intro p' c' w9 hacc9 hg9 _
              have hw9 : All w6 w9 := ((hall2.trans hx3).then_alloc _).grown hg9 (fun k hk => Or.inl (hkr.out k hk))
              clear hg9 hacc hout hout2
              go_wp2_with fail
              go_roundw
              case rel => exact ⟨k + 1, by omega, by go_num, by rw [hn.out]; exact hacc9, hw9⟩
              case measure => simp [intOf]; omega
    · have hd : decide ((k : Int) < (lp : Int)) = false := by simp; omega
      have htk : ps.take k = ps := List.take_of_length_le (by have := Hlp.out; omega)
      rw [htk] at hout
      clear htk
      go_wp2_with fail
      go_ret
      exact ⟨_, rfl, by have h := hout; rw [HFE.out] at h; exact (h.base hk1.size).mono RCalled.ok (fun j hj => Nat.le_trans hk1.size hj), hallq⟩
end Go.Proofs.YtiecaedgphdfdaaGreatDoor
