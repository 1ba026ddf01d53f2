/- Talks. -/
import Derived.Test.YtiecaedgphdfdaaGreatDoorUe
import Derived.Test.YtiecaedgphdfdaaGreatDoorRc
import Derived.Test.YtiecaedgphdfdaaGreatDoorRd
import Derived.Test.YtiecaedgphdfdaaGreatDoorRe
import Derived.Test.YtiecaedgphdfdaaGreatDoorKc
import Derived.Test.YtiecaedgphdfdaaGreatDoorTa
namespace Go.Proofs.YtiecaedgphdfdaaGreatDoor
open Go.RowKit

noncomputable def talkE (r : TR) (ps : List ByteArray) (xs : List Mark3) (rep : List ByteArray) : Int := if talkF r ≠ 0 then talkF r else if namesF ps ≠ 0 then namesF ps else if marksF xs ≠ 0 then marksF xs else namesF rep
def TalksPost (r : TR) (ps : List ByteArray) (xs : List Mark3) (rep : List ByteArray) (w : World) (e : Ending) (w' : World) : Prop :=
  (talkE r ps xs rep ≠ 0 → e = .returned (.tuple #[.slice none 0 0, .int .i64 (talkE r ps xs rep)])) ∧ (talkE r ps xs rep = 0 → ∃ v, e = .returned (.tuple #[v, .int .i64 0]) ∧ Acc RCalled 2 77 (fun k => w.heap.size ≤ k) w.heap.size w' v (talksOf r (fun p => srtI (scs xs p)) rep ps)) ∧ All w w'
theorem ret_res {a b : Int} (h : a = b) : Ending.returned (.tuple #[.slice none 0 0, .int .i64 a]) = .returned (.tuple #[.slice none 0 0, .int .i64 b]) := by rw [h]

set_option maxRecDepth 100000 in
set_option maxHeartbeats 12800000 in
theorem talks_any (sp fr til few : Int) (re : Bool) (ap : Option Addr) (lp cp : Nat) (ps : List ByteArray) (am : Option Addr) (lm cm : Nat) (xs : List Mark3) (ar : Option Addr) (lr cr : Nat) (rep : List ByteArray) (w : World)
    (hp : Sl RStr 1 (fun _ => True) w ap lp ps) (hpl : lp ≤ 1000000) (hm : Sl RMark 3 (fun _ => True) w am lm xs) (hml : lm ≤ 1000000) (hr : Sl RStr 1 (fun _ => True) w ar lr rep) (hrl : lr ≤ 1000000) :
    Calls Tryz.prog 33 #[.agg #[.int .i64 sp, .int .i64 fr, .int .i64 til, .int .i64 few, .bool re], .slice ap lp cp, .slice am lm cm, .slice ar lr cr] w (TalksPost ⟨sp, fr, til, few, re⟩ ps xs rep w) := by
  have hk1 : All w (w.alloc (.cells #[.int .i64 sp, .int .i64 fr, .int .i64 til, .int .i64 few, .bool re] 68)) := Kept.alloc _ _ _
  have hrb := heap_at w (.cells #[.int .i64 sp, .int .i64 fr, .int .i64 til, .int .i64 few, .bool re] 68) _ rfl
  have HR := Lib.hid (fun (wx : World) (k : All (w.alloc (.cells #[.int .i64 sp, .int .i64 fr, .int .i64 til, .int .i64 few, .bool re] 68)) wx) => k.heap hrb trivial)
  have r0 := cell_at (i := 0) hrb rfl
  have r1 := cell_at (i := 1) hrb rfl
  have r2 := cell_at (i := 2) hrb rfl
  have r3 := cell_at (i := 3) hrb rfl
  have r4 := cell_at (i := 4) hrb rfl
  have HPs := Lib.hid (fun (wx : World) (k : All w wx) => hp.keep RStr.ok k)
  have HMs := Lib.hid (fun (wx : World) (k : All w wx) => hm.keep RMark.ok k)
  have HRs := Lib.hid (fun (wx : World) (k : All w wx) => hr.keep RStr.ok k)
  have Hlp := Lib.hid hp.len
  have Hlm := Lib.hid hm.len
  clear hrb hp hm hr
  by_cases h1 : talkF ⟨sp, fr, til, few, re⟩ = 0
  · by_cases h2 : namesF ps = 0
    · by_cases h3 : marksF xs = 0
      · by_cases h4 : namesF rep = 0
        · have hE : talkE ⟨sp, fr, til, few, re⟩ ps xs rep = 0 := by rw [talkE, if_neg (by simp [h1]), if_neg (by simp [h2]), if_neg (by simp [h3]), h4]
          have HE := Lib.hid hE
          have hx := marksF_scores h3
          obtain ⟨b1, b2, b3, b4, b5, b6, b7⟩ := talkF_bounds h1
          dsimp only at b1 b2 b3 b4 b5 b6 b7
          have hlm3 : lm ≤ 3000 := by have := Hlm.out; omega
          have HX := Lib.hid (fun r => show (∀ z ∈ srtI (scs xs r), 0 ≤ z ∧ z ≤ 10) ∧ (srtI (scs xs r)).length ≤ 3000 from ⟨fun z hz => by obtain ⟨m, hm, rfl⟩ := scs_mem (srtI_mem.1 hz); exact hx.2 m hm, by have := scs_len xs r; rw [srtI_len]; omega⟩)
          have H3 := Lib.hid h3
          have H4 := Lib.hid h4
          clear hE hx h3 h4
          go_enter Tryz.func33, Tryz.ntmps33
          go_wp2_with fail
          generalize w.alloc (.cells #[.int .i64 sp, .int .i64 fr, .int .i64 til, .int .i64 few, .bool re] 68) = w1 at *
          refine (talkFault_any sp fr til few re _).mono ?_
          rintro e w2 ⟨rfl, hw2⟩
          have hk2 := hk1.trans hw2
          have s0 := hw2.cell r0 trivial
          have s1 := hw2.cell r1 trivial
          have s2 := hw2.cell r2 trivial
          have s3 := hw2.cell r3 trivial
          have s4 := hw2.cell r4 trivial
          clear r0 r1 r2 r3 r4
          rw [h1]
          go_wp2_with fail
          refine (namesFault_any ap lp cp ps _ (HPs.out _ hk2) hpl).mono ?_
          rintro e w3 ⟨rfl, hw3⟩
          have hk3 := hk2.trans hw3
          have t0 := hw3.cell s0 trivial
          have t1 := hw3.cell s1 trivial
          have t2 := hw3.cell s2 trivial
          have t3 := hw3.cell s3 trivial
          have t4 := hw3.cell s4 trivial
          clear s0 s1 s2 s3 s4
          rw [h2]
          go_wp2_with fail
          refine (checkMarks_any am lm cm xs _ (HMs.out _ hk3) hml).mono ?_
          rintro e w4 ⟨rfl, hw4⟩
          have hk4 := hk3.trans hw4
          have u0 := hw4.cell t0 trivial
          have u1 := hw4.cell t1 trivial
          have u2 := hw4.cell t2 trivial
          have u3 := hw4.cell t3 trivial
          have u4 := hw4.cell t4 trivial
          clear t0 t1 t2 t3 t4
          rw [H3.out]
          go_wp2_with fail
          refine (namesFault_any ar lr cr rep _ (HRs.out _ hk4) hrl).mono ?_
          rintro e w5 ⟨rfl, hw5⟩
          have hk5 := hk4.trans hw5
          have v0 := hw5.cell u0 trivial
          have v1 := hw5.cell u1 trivial
          have v2 := hw5.cell u2 trivial
          have v3 := hw5.cell u3 trivial
          have v4 := hw5.cell u4 trivial
          clear u0 u1 u2 u3 u4
          rw [H4.out]
          go_wp2_with fail
          refine (scoresOf_any am lm cm xs _ (HMs.out _ hk5) hlm3).mono ?_
          rintro e w6 ⟨mb, nn, vals, rfl, hsc, hw6⟩
          have hk6 := hk5.trans hw6
          have c0 := hw6.cell v0 trivial
          have c1 := hw6.cell v1 trivial
          have c2 := hw6.cell v2 trivial
          have c3 := hw6.cell v3 trivial
          have c4 := hw6.cell v4 trivial
          clear v0 v1 v2 v3 v4
          have HC := Lib.hid (fun (wx : World) (k : All w6 wx) => (⟨k.cell c0 trivial, k.cell c1 trivial, k.cell c2 trivial, k.cell c3 trivial, k.cell c4 trivial⟩ : _ ∧ _ ∧ _ ∧ _ ∧ _))
          clear c0 c1 c2 c3 c4
          have HSC := Lib.hid hsc
          clear hw2 hw3 hw4 hw5 hw6 hsc hk2 hk3 hk4 hk5 hk1
          clear h1 h2
          obtain ⟨f, hf⟩ : ∃ f : ByteArray → List Int, f = fun p => srtI (scs xs p) := ⟨_, rfl⟩
          have HSC' := Lib.hid (show SC w6 _ mb nn vals f from by rw [hf]; exact HSC.out)
          have HXF := Lib.hid (show ∀ r, (∀ z ∈ f r, 0 ≤ z ∧ z ≤ 10) ∧ (f r).length ≤ 3000 from by rw [hf]; exact HX.out)
          have HFE := Lib.hid hf
          clear HSC HX hf
          go_wp2_with fail
          go_loopw [15, 17, 18, 19, 20, 21, 46] (fun v _ _ _ _ _ i wr => ∃ k : Nat, k ≤ lp ∧ i = .int .i64 k ∧ Acc RCalled 2 77 (fun j => w6.heap.size ≤ j) w6.heap.size wr v (talksOf ⟨sp, fr, til, few, re⟩ f rep (ps.take k)) ∧ All w6 wr) (fun _ _ _ _ _ _ i _ => lp - (intOf i).toNat)
          case atStart => exact ⟨0, Nat.zero_le _, rfl, Acc.nil _ _ _ _ _ _, Kept.refl _ _⟩
          case round =>
            obtain ⟨k, hk, rfl, hout, hall⟩ := hrel
            obtain ⟨wo, rfl⟩ : ∃ wo : World, wo = wr := ⟨_, rfl⟩
            have hall6 := hk6.trans hall
            have hszo := hall.size
            by_cases hlt : k < lp
            · obtain ⟨b, off, y, ha, -, hck, hyz, -, -, htake⟩ := (HPs.out _ hall6).atStr hlt
              have Htake := Lib.hid htake
              subst ha
              clear htake
              obtain ⟨ay, cy, hvy, hsy⟩ := (HSC'.out.acc y).sl RInt.ok (by decide) (G := fun _ => True) (fun _ h => h.elim) (fun _ _ => trivial)
              have hlk := (HSC'.out.keep hall).look Tryz.underlying136 y hyz
              rw [hvy] at hlk
              clear hvy
              obtain ⟨hz1, hz2⟩ := HXF.out y
              have HWY := Lib.hid (show whyOf ⟨sp, fr, til, few, re⟩ (f y) y rep = whyB (isSpread ⟨sp, fr, til, few, re⟩ (f y)) (isMiddle ⟨sp, fr, til, few, re⟩ (f y)) (isFew ⟨sp, fr, til, few, re⟩ (f y)) (isReply ⟨sp, fr, til, few, re⟩ y rep) from rfl)
              obtain ⟨s, hs⟩ : ∃ s, s = f y := ⟨_, rfl⟩
              have HS := Lib.hid hs
              rw [← hs] at hsy hlk hz1 hz2 HWY
              clear hs
              have hsb := sumI_bound hz1
              obtain ⟨hs1, hs2⟩ := hsb
              have hs3 : sumI s ≤ 30000 := by omega
              obtain ⟨m, hm⟩ : ∃ m, m = s.length := ⟨_, rfl⟩
              have HM := Lib.hid hm
              rw [← hm] at hsy hlk hz2
              clear hm hs2
              obtain ⟨q1, q2⟩ := prod_bd (a := fr) (n := m) b3 (by omega) hz2
              obtain ⟨q3, q4⟩ := prod_bd (a := til) (n := m) (by omega) (by omega) hz2
              have HZ := Lib.hid hz1
              have HSY := Lib.hid (fun (wx : World) (k : All wo wx) => hsy.keep RInt.ok (hall.trans k))
              clear hz1 hsy
              obtain ⟨c0, c1, c2, c3, c4⟩ := HC.out _ hall
              go_wp2_with fail
              refine (sumOf_any ay m cy s _ (HSY.out _ (Kept.refl _ _)) (by omega) HZ.out).mono ?_
              rintro e w' ⟨rfl, rfl⟩
              obtain ⟨S, hS⟩ : ∃ S, S = sumI s := ⟨_, rfl⟩
              have HSUM := Lib.hid hS
              rw [← hS] at hs1 hs3 ⊢
              clear hS
              go_upto_region 21 with fail
              go_cut [78] (fun t wx => t = .bool (isSpread ⟨sp, fr, til, few, re⟩ s) ∧ All wo wx)
              case first =>
                by_cases g1 : 0 < sp
                · have d1 : decide (0 < sp) = true := by simpa using g1
                  by_cases g2 : 0 < m
                  · have d2 : decide (0 < m) = true := by simpa using g2
                    have d2' : decide ((0 : Int) < (m : Int)) = true := by simp; omega
                    obtain ⟨by_, oy, rfl, -, hcs⟩ := (HSY.out _ (Kept.refl _ _)).ints g2
                    have e0 := hcs 0 g2
                    have e1 := hcs (m - 1) (by omega)
                    simp only [Nat.add_zero] at e0
                    have hb0 := getD_bound HZ.out (by decide) 0
                    have hb1 := getD_bound HZ.out (by decide) (m - 1)
                    have HF := Lib.hid (show isSpread ⟨sp, fr, til, few, re⟩ s = decide (sp ≤ s.getD (m - 1) 0 - s.getD 0 0) from by rw [isSpread, ← HM.out]; simp [g1, g2])
                    clear hcs
                    generalize s.getD 0 0 = z0 at *
                    generalize s.getD (m - 1) 0 = z1 at *
                    obtain ⟨hb0a, hb0b⟩ := hb0
                    obtain ⟨hb1a, hb1b⟩ := hb1
                    go_quiet (fail)
                    go_wp2_with fail
                    go_meet
                    exact ⟨by rw [HF.out], Kept.drewN _ _ _⟩
                  · have d2 : decide (0 < m) = false := by simpa using g2
                    have d2' : decide ((0 : Int) < (m : Int)) = false := by simp; omega
                    have HF := Lib.hid (show isSpread ⟨sp, fr, til, few, re⟩ s = false from by rw [isSpread, ← HM.out]; simp [g2])
                    go_quiet (fail)
                    go_wp2_with fail
                    go_meet
                    exact ⟨by rw [HF.out], Kept.drewN _ _ _⟩
                · have d1 : decide (0 < sp) = false := by simpa using g1
                  have HF := Lib.hid (show isSpread ⟨sp, fr, til, few, re⟩ s = false from by rw [isSpread]; simp [g1])
                  go_quiet (fail)
                  go_wp2_with fail
                  go_meet
                  exact ⟨by rw [HF.out], Kept.drewN _ _ _⟩
              case rest =>
                obtain ⟨rfl, hx⟩ := hcut
                obtain ⟨w2, rfl⟩ : ∃ x : World, x = wc := ⟨_, rfl⟩
                clear c0 c1 c2 c3 c4
                have hsx := hx.size
                obtain ⟨c0, c1, c2, c3, c4⟩ := HC.out _ (hall.trans hx)
                go_upto_if 78 with fail
                go_cut [21] (fun v wx => ∃ ws : List Int, ws = (if isSpread ⟨sp, fr, til, few, re⟩ s = true then [1] else []) ∧ ws.length ≤ 1 ∧ WhyAt wo ws v wx)
                case first =>
                  cases hc1 : isSpread ⟨sp, fr, til, few, re⟩ s with
                  | false =>
                    go_wp2_with fail
                    go_meet
                    exact ⟨[], by simp [hc1], by simp, Acc.nil _ _ _ _ _ _, hx⟩
                  | true =>
                    have hlb : ([] : List Int).length + 1 ≤ 1000000000 := by decide
                    go_wp2_with (at_builtin; refine wp_append1 RInt.ok _ rfl _ _ 22 rfl wo.heap.size 3 (.int .i64 0) 1 8 Tryz.underlying22 (by kernel_rfl) rfl (by decide) (fun _ => False) _ [] rfl (Acc.nil _ _ _ _ _ _) ⟨_, 0, none⟩ 1 [.int .i64 1] rfl rfl (World.news_of_block (cs := #[.int .i64 1]) (heap_alloc_new w2 _)) (by simp [Value.oneCell']) 1 rfl hlb (by decide) (by simp; omega) ?_)
                    intro p' c' w9 hacc9 hg9 _
                    have hw9 : All wo w9 := (hx.then_alloc _).grown hg9 (fun k hk => by simp [Value.ownBlock] at hk)
                    clear hg9
                    go_wp2_with fail
                    go_meet
                    exact ⟨_, by simp [hc1], by simp, hacc9, hw9⟩
                case rest =>
                  clear hx c0 c1 c2 c3 c4 hsx
                  skip
                  obtain ⟨ws, hws, hwl, hacc, hx⟩ := hcut
                  obtain ⟨w2, rfl⟩ : ∃ x : World, x = wc := ⟨_, rfl⟩
                  obtain ⟨pa, pc, rfl, -⟩ := hacc.form
                  have HWS := Lib.hid hws
                  clear hws
                  have hsx := hx.size
                  obtain ⟨c0, c1, c2, c3, c4⟩ := HC.out _ (hall.trans hx)
                  go_upto_region 23 with fail
                  go_cut [101] (fun t wx => t = .bool (isMiddle ⟨sp, fr, til, few, re⟩ s) ∧ WhyAt wo ws (.slice pa ws.length pc) wx)
                  case first =>
                    by_cases g2 : 0 < m
                    · have d2' : decide ((0 : Int) < (m : Int)) = true := by simp; omega
                      by_cases g3 : fr * (m : Int) ≤ 10 * S
                      · have d3 : decide (fr * (m : Int) ≤ 10 * S) = true := by simpa using g3
                        have HF := Lib.hid (show isMiddle ⟨sp, fr, til, few, re⟩ s = decide (10 * S < til * (m : Int)) from by rw [isMiddle, ← HM.out, ← HSUM.out]; simp [g2, g3])
                        clear g3
                        go_wp2_with fail
                        go_meet
                        exact ⟨by rw [HF.out], hacc, hx⟩
                      · have d3 : decide (fr * (m : Int) ≤ 10 * S) = false := by simpa using g3
                        have HF := Lib.hid (show isMiddle ⟨sp, fr, til, few, re⟩ s = false from by rw [isMiddle, ← HM.out, ← HSUM.out]; simp [g3])
                        clear g3
                        go_wp2_with fail
                        go_meet
                        exact ⟨by rw [HF.out], hacc, hx⟩
                    · have d2' : decide ((0 : Int) < (m : Int)) = false := by simp; omega
                      have HF := Lib.hid (show isMiddle ⟨sp, fr, til, few, re⟩ s = false from by rw [isMiddle, ← HM.out]; simp [g2])
                      go_wp2_with fail
                      go_meet
                      exact ⟨by rw [HF.out], hacc, hx⟩
                  case rest =>
                    clear hx c0 c1 c2 c3 c4 hsx hacc
                    obtain ⟨rfl, hacc, hx⟩ := hcut
                    obtain ⟨w2, rfl⟩ : ∃ x : World, x = wc := ⟨_, rfl⟩
                    have hsx := hx.size
                    obtain ⟨c0, c1, c2, c3, c4⟩ := HC.out _ (hall.trans hx)
                    go_upto_if 101 with fail
                    go_cut [21] (fun v wx => ∃ ws : List Int, ws = ((if isSpread ⟨sp, fr, til, few, re⟩ s = true then [1] else []) ++ (if isMiddle ⟨sp, fr, til, few, re⟩ s = true then [2] else [])) ∧ ws.length ≤ 2 ∧ WhyAt wo ws v wx)
                    case first =>
                      cases hc : isMiddle ⟨sp, fr, til, few, re⟩ s with
                      | false =>
                        go_wp2_with fail
                        go_meet
                        exact ⟨ws, by rw [HWS.out]; simp [hc], by omega, hacc, hx⟩
                      | true =>
                        have hlb : ws.length + 1 ≤ 1000000000 := by omega
                        go_wp2_with (at_builtin; refine wp_append1 RInt.ok _ rfl _ _ 22 rfl wo.heap.size 3 (.int .i64 0) 1 8 Tryz.underlying22 (by kernel_rfl) rfl (by decide) (fun _ => False) _ ws rfl (hacc.keepAll RInt.ok (Kept.alloc _ _ _)) ⟨_, 0, none⟩ 1 [.int .i64 2] rfl rfl (World.news_of_block (cs := #[.int .i64 2]) (heap_alloc_new w2 _)) (by simp [Value.oneCell']) 2 rfl hlb (by decide) (by simp; omega) ?_)
                        intro p' c' w9 hacc9 hg9 _
                        have hkr := Lib.hid (fun k (hk : (Value.slice pa ws.length pc).ownBlock = some k) => (hacc.lt k hk).1)
                        have hw9 : All wo w9 := (hx.then_alloc _).grown hg9 (fun k hk => Or.inl (hkr.out k hk))
                        clear hg9 hacc
                        go_wp2_with fail
                        go_meet
                        exact ⟨_, by rw [HWS.out]; simp [hc], by simp; omega, hacc9, hw9⟩
                    case rest =>
                      clear hx c0 c1 c2 c3 c4 hsx hacc HWS hwl
                      clear ws pa pc
                      obtain ⟨ws, hws, hwl, hacc, hx⟩ := hcut
                      obtain ⟨w2, rfl⟩ : ∃ x : World, x = wc := ⟨_, rfl⟩
                      obtain ⟨pa, pc, rfl, -⟩ := hacc.form
                      have HWS := Lib.hid hws
                      clear hws
                      have hsx := hx.size
                      obtain ⟨c0, c1, c2, c3, c4⟩ := HC.out _ (hall.trans hx)
                      go_upto_region 25 with fail
                      go_cut [108] (fun t wx => t = .bool (isFew ⟨sp, fr, til, few, re⟩ s) ∧ WhyAt wo ws (.slice pa ws.length pc) wx)
                      case first =>
                        have HQ := Lib.hid (show isFew ⟨sp, fr, til, few, re⟩ s = decide ((m : Int) < few) from by rw [isFew, ← HM.out])
                        go_wp2_with fail
                        go_meet
                        exact ⟨by rw [HQ.out], hacc, hx⟩
                      case rest =>
                        clear hx c0 c1 c2 c3 c4 hsx hacc
                        obtain ⟨rfl, hacc, hx⟩ := hcut
                        obtain ⟨w2, rfl⟩ : ∃ x : World, x = wc := ⟨_, rfl⟩
                        have hsx := hx.size
                        obtain ⟨c0, c1, c2, c3, c4⟩ := HC.out _ (hall.trans hx)
                        go_upto_if 108 with fail
                        go_cut [21] (fun v wx => ∃ ws : List Int, ws = ((if isSpread ⟨sp, fr, til, few, re⟩ s = true then [1] else []) ++ (if isMiddle ⟨sp, fr, til, few, re⟩ s = true then [2] else []) ++ (if isFew ⟨sp, fr, til, few, re⟩ s = true then [3] else [])) ∧ ws.length ≤ 3 ∧ WhyAt wo ws v wx)
                        case first =>
                          cases hc : isFew ⟨sp, fr, til, few, re⟩ s with
                          | false =>
                            go_wp2_with fail
                            go_meet
                            exact ⟨ws, by rw [HWS.out]; simp [hc], by omega, hacc, hx⟩
                          | true =>
                            have hlb : ws.length + 1 ≤ 1000000000 := by omega
                            go_wp2_with (at_builtin; refine wp_append1 RInt.ok _ rfl _ _ 22 rfl wo.heap.size 3 (.int .i64 0) 1 8 Tryz.underlying22 (by kernel_rfl) rfl (by decide) (fun _ => False) _ ws rfl (hacc.keepAll RInt.ok (Kept.alloc _ _ _)) ⟨_, 0, none⟩ 1 [.int .i64 3] rfl rfl (World.news_of_block (cs := #[.int .i64 3]) (heap_alloc_new w2 _)) (by simp [Value.oneCell']) 3 rfl hlb (by decide) (by simp; omega) ?_)
                            intro p' c' w9 hacc9 hg9 _
                            have hkr := Lib.hid (fun k (hk : (Value.slice pa ws.length pc).ownBlock = some k) => (hacc.lt k hk).1)
                            have hw9 : All wo w9 := (hx.then_alloc _).grown hg9 (fun k hk => Or.inl (hkr.out k hk))
                            clear hg9 hacc
                            go_wp2_with fail
                            go_meet
                            exact ⟨_, by rw [HWS.out]; simp [hc], by simp; omega, hacc9, hw9⟩
                        case rest =>
                          clear hx c0 c1 c2 c3 c4 hsx hacc HWS hwl
                          clear ws pa pc
                          obtain ⟨ws, hws, hwl, hacc, hx⟩ := hcut
                          obtain ⟨w2, rfl⟩ : ∃ x : World, x = wc := ⟨_, rfl⟩
                          obtain ⟨pa, pc, rfl, -⟩ := hacc.form
                          have HWS := Lib.hid hws
                          clear hws
                          have hsx := hx.size
                          obtain ⟨c0, c1, c2, c3, c4⟩ := HC.out _ (hall.trans hx)
                          go_upto_region 27 with fail
                          go_cut [118] (fun t wx => t = .bool (isReply ⟨sp, fr, til, few, re⟩ y rep) ∧ WhyAt wo ws (.slice pa ws.length pc) wx)
                          case first =>
                            obtain ⟨rb, hrb⟩ : ∃ rb, rb = re := ⟨_, rfl⟩
                            have HRP := Lib.hid (show isReply ⟨sp, fr, til, few, re⟩ y rep = (rb && memB y rep) from by rw [hrb]; rfl)
                            rw [← hrb] at c4
                            clear hrb
                            cases rb with
                            | false =>
                              go_wp2_with fail
                              go_meet
                              exact ⟨by rw [HRP.out]; rfl, hacc, hx⟩
                            | true =>
                              go_wp2_with fail
                              refine (contains_any ar lr cr rep y _ (HRs.out _ (hall6.trans hx)) hrl).mono ?_
                              rintro e w' ⟨rfl, rfl⟩
                              go_wp2_with fail
                              go_meet
                              exact ⟨by rw [HRP.out]; simp, hacc, hx⟩
                          case rest =>
                            clear hx c0 c1 c2 c3 c4 hsx hacc
                            obtain ⟨rfl, hacc, hx⟩ := hcut
                            obtain ⟨w2, rfl⟩ : ∃ x : World, x = wc := ⟨_, rfl⟩
                            have hsx := hx.size
                            obtain ⟨c0, c1, c2, c3, c4⟩ := HC.out _ (hall.trans hx)
                            go_upto_if 118 with fail
                            go_cut [21] (fun v wx => ∃ ws : List Int, ws = (whyB (isSpread ⟨sp, fr, til, few, re⟩ s) (isMiddle ⟨sp, fr, til, few, re⟩ s) (isFew ⟨sp, fr, til, few, re⟩ s) (isReply ⟨sp, fr, til, few, re⟩ y rep)) ∧ ws.length ≤ 4 ∧ WhyAt wo ws v wx)
                            case first =>
                              cases hc : isReply ⟨sp, fr, til, few, re⟩ y rep with
                              | false =>
                                go_wp2_with fail
                                go_meet
                                exact ⟨ws, by rw [HWS.out]; simp [hc, whyB], by omega, hacc, hx⟩
                              | true =>
                                have hlb : ws.length + 1 ≤ 1000000000 := by omega
                                go_wp2_with (at_builtin; refine wp_append1 RInt.ok _ rfl _ _ 22 rfl wo.heap.size 3 (.int .i64 0) 1 8 Tryz.underlying22 (by kernel_rfl) rfl (by decide) (fun _ => False) _ ws rfl (hacc.keepAll RInt.ok (Kept.alloc _ _ _)) ⟨_, 0, none⟩ 1 [.int .i64 4] rfl rfl (World.news_of_block (cs := #[.int .i64 4]) (heap_alloc_new w2 _)) (by simp [Value.oneCell']) 4 rfl hlb (by decide) (by simp; omega) ?_)
                                intro p' c' w9 hacc9 hg9 _
                                have hkr := Lib.hid (fun k (hk : (Value.slice pa ws.length pc).ownBlock = some k) => (hacc.lt k hk).1)
                                have hw9 : All wo w9 := (hx.then_alloc _).grown hg9 (fun k hk => Or.inl (hkr.out k hk))
                                clear hg9 hacc
                                go_wp2_with fail
                                go_meet
                                exact ⟨_, by rw [HWS.out]; simp [hc, whyB], by simp; omega, hacc9, hw9⟩
                            case rest =>
                              clear hx c0 c1 c2 c3 c4 hsx hacc HWS hwl
                              clear ws pa pc
                              obtain ⟨ws, hws, hwl, hacc, hx⟩ := hcut
                              obtain ⟨w2, rfl⟩ : ∃ x : World, x = wc := ⟨_, rfl⟩
                              obtain ⟨pa, pc, rfl, -⟩ := hacc.form
                              have HWS := Lib.hid hws
                              clear hws
                              have hsx := hx.size
                              obtain ⟨c0, c1, c2, c3, c4⟩ := HC.out _ (hall.trans hx)
                              have hout2 := hout.keepAll RCalled.ok hx
                              obtain ⟨outs, houts⟩ : ∃ outs, outs = talksOf ⟨sp, fr, til, few, re⟩ f rep (ps.take k) := ⟨_, rfl⟩
                              rw [← houts] at hout hout2
                              have HO := Lib.hid houts
                              have holn : outs.length ≤ 1000000 := by rw [houts]; have := talksOf_len (r := ⟨sp, fr, til, few, re⟩) (f := f) (rep := rep) (ps.take k); have := List.length_take_le k ps; omega
                              clear houts
                              obtain ⟨po, pd, rfl, -⟩ := hout2.form
                              by_cases hw0 : ws = []
                              · have hn := Lib.hid (show talksOf ⟨sp, fr, til, few, re⟩ f rep (ps.take (k + 1)) = outs from by rw [HO.out]; exact talksOf_none Htake.out (by rw [← HS.out, HWY.out, ← HWS.out]; exact hw0))
                                subst hw0
                                simp only [List.length_nil]
                                go_wp2_with fail
                                go_roundw
                                case rel => exact ⟨k + 1, by omega, by go_num, by rw [hn.out]; exact hout2, hall.trans hx⟩
                                case measure => simp [intOf]; omega
                              · have hwp : 0 < ws.length := List.length_pos_iff.2 hw0
                                have d : decide ((0 : Int) < (ws.length : Int)) = true := by simp; omega
                                have hn := Lib.hid (show talksOf ⟨sp, fr, til, few, re⟩ f rep (ps.take (k + 1)) = outs ++ [(y, ws)] from by rw [HO.out, talksOf_some Htake.out (by rw [← HS.out, HWY.out, ← HWS.out]; exact hw0), ← HS.out, HWY.out, ← HWS.out])
                                obtain ⟨pa', pc', heq, hslw⟩ := hacc.sl RInt.ok (by decide) (G := fun j => w6.heap.size ≤ j ∧ (Value.slice po outs.length pd).ownBlock ≠ some j) (fun _ h => h.elim) (fun j hj => ⟨by have := (hacc.lt j hj).1; omega, fun e => by have h1 := (hout.lt j e).2; have h2 := (hacc.lt j hj).1; omega⟩)
                                injection heq with e1 e2 e3
                                subst e1 e3
                                clear hw0 e2
                                have hlb : outs.length + 1 ≤ 1000000000 := by omega
                                have hkr := Lib.hid (fun k (hk : (Value.slice po outs.length pd).ownBlock = some k) => (hout2.lt k hk).1)
                                go_wp2_with (at_builtin; refine wp_append1 RCalled.ok _ rfl _ _ 71 rfl w6.heap.size 77 (.agg #[.string ⟨#[]⟩, .slice none 0 0]) 2 40 Tryz.underlying71 (by kernel_rfl) rfl (by decide) (fun j => w6.heap.size ≤ j) _ outs rfl (hout2.keepAll RCalled.ok (Kept.alloc _ _ _)) ⟨_, 0, none⟩ 1 [.string y, .slice pa ws.length pc] rfl rfl (World.news_of_block (cs := #[.string y, .slice pa ws.length pc]) (heap_alloc_new w2 _)) (by simp [Value.oneCell']) (y, ws) ⟨pa, ws.length, pc, rfl, hyz, hwl, hslw.keep RInt.ok (Kept.alloc _ _ _)⟩ hlb (by decide) (by simp; omega) ?_)
                                intro p' c' w9 hacc9 hg9 _
                                have hw9 : All w6 w9 := ((hall.trans hx).then_alloc _).grown hg9 (fun k hk => Or.inl (hkr.out k hk))
                                clear hg9 hacc hout hout2
                                go_wp2_with fail
                                go_roundw
                                case rel => exact ⟨k + 1, by omega, by go_num, by rw [hn.out]; exact hacc9, hw9⟩
                                case measure => simp [intOf]; omega
            · have hd : decide ((k : Int) < (lp : Int)) = false := by simp; omega
              have htk : ps.take k = ps := List.take_of_length_le (by have := Hlp.out; omega)
              rw [htk] at hout
              clear htk
              go_wp2_with fail
              go_ret2
              exact ⟨(fun h => absurd HE.out h), fun _ => ⟨_, rfl, by have h := hout; rw [HFE.out] at h; exact (h.base hk6.size).mono RCalled.ok (fun j hj => Nat.le_trans hk6.size hj)⟩, hall6⟩
        · skip
          obtain ⟨er, her⟩ : ∃ er, er = namesF rep := ⟨_, rfl⟩
          have hE : talkE ⟨sp, fr, til, few, re⟩ ps xs rep = er := by rw [talkE, if_neg (by simp [h1]), if_neg (by simp [h2]), if_neg (by simp [h3]), her]
          have hne0 : er ≠ 0 := by rw [her]; exact h4
          have hne : (er != 0) = true := by simpa using hne0
          have HE := Lib.hid hE
          have HN := Lib.hid hne0
          have HER := Lib.hid her
          clear hE hne0 her h4
          go_enter Tryz.func33, Tryz.ntmps33
          go_wp2_with fail
          generalize w.alloc (.cells #[.int .i64 sp, .int .i64 fr, .int .i64 til, .int .i64 few, .bool re] 68) = w1 at *
          refine (talkFault_any sp fr til few re _).mono ?_
          rintro e w2 ⟨rfl, hw2⟩
          have hk2 := hk1.trans hw2
          have s0 := hw2.cell r0 trivial
          have s1 := hw2.cell r1 trivial
          have s2 := hw2.cell r2 trivial
          have s3 := hw2.cell r3 trivial
          have s4 := hw2.cell r4 trivial
          clear r0 r1 r2 r3 r4
          rw [h1]
          go_wp2_with fail
          refine (namesFault_any ap lp cp ps _ (HPs.out _ hk2) hpl).mono ?_
          rintro e w3 ⟨rfl, hw3⟩
          have hk3 := hk2.trans hw3
          have t0 := hw3.cell s0 trivial
          have t1 := hw3.cell s1 trivial
          have t2 := hw3.cell s2 trivial
          have t3 := hw3.cell s3 trivial
          have t4 := hw3.cell s4 trivial
          clear s0 s1 s2 s3 s4
          rw [h2]
          go_wp2_with fail
          refine (checkMarks_any am lm cm xs _ (HMs.out _ hk3) hml).mono ?_
          rintro e w4 ⟨rfl, hw4⟩
          have hk4 := hk3.trans hw4
          have u0 := hw4.cell t0 trivial
          have u1 := hw4.cell t1 trivial
          have u2 := hw4.cell t2 trivial
          have u3 := hw4.cell t3 trivial
          have u4 := hw4.cell t4 trivial
          clear t0 t1 t2 t3 t4
          rw [h3]
          go_wp2_with fail
          refine (namesFault_any ar lr cr rep _ (HRs.out _ hk4) hrl).mono ?_
          rintro e w5 ⟨rfl, hw5⟩
          have hk5 := hk4.trans hw5
          have v0 := hw5.cell u0 trivial
          have v1 := hw5.cell u1 trivial
          have v2 := hw5.cell u2 trivial
          have v3 := hw5.cell u3 trivial
          have v4 := hw5.cell u4 trivial
          clear u0 u1 u2 u3 u4
          rw [← HER.out]
          go_wp2_with fail
          go_ret2
          exact ⟨fun _ => ret_res HE.out.symm, (fun h => absurd h (by rw [HE.out]; exact HN.out)), hk5⟩
      · skip
        obtain ⟨er, her⟩ : ∃ er, er = marksF xs := ⟨_, rfl⟩
        have hE : talkE ⟨sp, fr, til, few, re⟩ ps xs rep = er := by rw [talkE, if_neg (by simp [h1]), if_neg (by simp [h2]), if_pos h3, her]
        have hne0 : er ≠ 0 := by rw [her]; exact h3
        have hne : (er != 0) = true := by simpa using hne0
        have HE := Lib.hid hE
        have HN := Lib.hid hne0
        have HER := Lib.hid her
        clear hE hne0 her h3
        go_enter Tryz.func33, Tryz.ntmps33
        go_wp2_with fail
        generalize w.alloc (.cells #[.int .i64 sp, .int .i64 fr, .int .i64 til, .int .i64 few, .bool re] 68) = w1 at *
        refine (talkFault_any sp fr til few re _).mono ?_
        rintro e w2 ⟨rfl, hw2⟩
        have hk2 := hk1.trans hw2
        have s0 := hw2.cell r0 trivial
        have s1 := hw2.cell r1 trivial
        have s2 := hw2.cell r2 trivial
        have s3 := hw2.cell r3 trivial
        have s4 := hw2.cell r4 trivial
        clear r0 r1 r2 r3 r4
        rw [h1]
        go_wp2_with fail
        refine (namesFault_any ap lp cp ps _ (HPs.out _ hk2) hpl).mono ?_
        rintro e w3 ⟨rfl, hw3⟩
        have hk3 := hk2.trans hw3
        have t0 := hw3.cell s0 trivial
        have t1 := hw3.cell s1 trivial
        have t2 := hw3.cell s2 trivial
        have t3 := hw3.cell s3 trivial
        have t4 := hw3.cell s4 trivial
        clear s0 s1 s2 s3 s4
        rw [h2]
        go_wp2_with fail
        refine (checkMarks_any am lm cm xs _ (HMs.out _ hk3) hml).mono ?_
        rintro e w4 ⟨rfl, hw4⟩
        have hk4 := hk3.trans hw4
        have u0 := hw4.cell t0 trivial
        have u1 := hw4.cell t1 trivial
        have u2 := hw4.cell t2 trivial
        have u3 := hw4.cell t3 trivial
        have u4 := hw4.cell t4 trivial
        clear t0 t1 t2 t3 t4
        rw [← HER.out]
        go_wp2_with fail
        go_ret2
        exact ⟨fun _ => ret_res HE.out.symm, (fun h => absurd h (by rw [HE.out]; exact HN.out)), hk4⟩
    · skip
      obtain ⟨er, her⟩ : ∃ er, er = namesF ps := ⟨_, rfl⟩
      have hE : talkE ⟨sp, fr, til, few, re⟩ ps xs rep = er := by rw [talkE, if_neg (by simp [h1]), if_pos h2, her]
      have hne0 : er ≠ 0 := by rw [her]; exact h2
      have hne : (er != 0) = true := by simpa using hne0
      have HE := Lib.hid hE
      have HN := Lib.hid hne0
      have HER := Lib.hid her
      clear hE hne0 her h2
      go_enter Tryz.func33, Tryz.ntmps33
      go_wp2_with fail
      generalize w.alloc (.cells #[.int .i64 sp, .int .i64 fr, .int .i64 til, .int .i64 few, .bool re] 68) = w1 at *
      refine (talkFault_any sp fr til few re _).mono ?_
      rintro e w2 ⟨rfl, hw2⟩
      have hk2 := hk1.trans hw2
      have s0 := hw2.cell r0 trivial
      have s1 := hw2.cell r1 trivial
      have s2 := hw2.cell r2 trivial
      have s3 := hw2.cell r3 trivial
      have s4 := hw2.cell r4 trivial
      clear r0 r1 r2 r3 r4
      rw [h1]
      go_wp2_with fail
      refine (namesFault_any ap lp cp ps _ (HPs.out _ hk2) hpl).mono ?_
      rintro e w3 ⟨rfl, hw3⟩
      have hk3 := hk2.trans hw3
      have t0 := hw3.cell s0 trivial
      have t1 := hw3.cell s1 trivial
      have t2 := hw3.cell s2 trivial
      have t3 := hw3.cell s3 trivial
      have t4 := hw3.cell s4 trivial
      clear s0 s1 s2 s3 s4
      rw [← HER.out]
      go_wp2_with fail
      go_ret2
      exact ⟨fun _ => ret_res HE.out.symm, (fun h => absurd h (by rw [HE.out]; exact HN.out)), hk3⟩
  · skip
    obtain ⟨er, her⟩ : ∃ er, er = talkF ⟨sp, fr, til, few, re⟩ := ⟨_, rfl⟩
    have hE : talkE ⟨sp, fr, til, few, re⟩ ps xs rep = er := by rw [talkE, if_pos h1, her]
    have hne0 : er ≠ 0 := by rw [her]; exact h1
    have hne : (er != 0) = true := by simpa using hne0
    have HE := Lib.hid hE
    have HN := Lib.hid hne0
    have HER := Lib.hid her
    clear hE hne0 her h1
    go_enter Tryz.func33, Tryz.ntmps33
    go_wp2_with fail
    generalize w.alloc (.cells #[.int .i64 sp, .int .i64 fr, .int .i64 til, .int .i64 few, .bool re] 68) = w1 at *
    refine (talkFault_any sp fr til few re _).mono ?_
    rintro e w2 ⟨rfl, hw2⟩
    have hk2 := hk1.trans hw2
    have s0 := hw2.cell r0 trivial
    have s1 := hw2.cell r1 trivial
    have s2 := hw2.cell r2 trivial
    have s3 := hw2.cell r3 trivial
    have s4 := hw2.cell r4 trivial
    clear r0 r1 r2 r3 r4
    rw [← HER.out]
    go_wp2_with fail
    go_ret2
    exact ⟨fun _ => ret_res HE.out.symm, (fun h => absurd h (by rw [HE.out]; exact HN.out)), hk2⟩
end Go.Proofs.YtiecaedgphdfdaaGreatDoor
