/- Maps from strings to bools; moments; turnsFault. -/
import Derived.Test.YtllkemadaemjeaaGreatDoorBa
import Derived.Test.YtllkemadaemjeaaGreatDoorMb
import Derived.Test.YtllkemadaemjeaaGreatDoorZc
namespace Go.Proofs.YtllkemadaemjeaaGreatDoor
open Go.RowKit

/-- Block b is a map of bools: f. -/
def MapO (P : Program) (k : TypeId) (w : World) (b n : Nat) (f : ByteArray → Bool) : Prop := ∃ m, MapS P k w b n m ∧ ∀ p, (m p).getD (.bool false) = .bool (f p)
section
variable {P : Program} {k e t : TypeId} {w w' : World} {b n : Nat} {f : ByteArray → Bool}
theorem MapO.made (P : Program) (k : TypeId) (w : World) : MapO P k (w.alloc (.map #[] 0)) w.heap.size 0 (fun _ => false) := ⟨_, MapS.made P k w, fun _ => rfl⟩
theorem MapO.lt (h : MapO P k w b n f) : b < w.heap.size := by obtain ⟨m, h1, -⟩ := h; exact h1.lt
theorem MapO.keep {F : Nat → Prop} (h : MapO P k w b n f) (hk : Kept F w w') (hF : F b) : MapO P k w' b n f := by obtain ⟨m, h1, h2⟩ := h; exact ⟨m, h1.keep hk hF, h2⟩
theorem MapO.congr {g : ByteArray → Bool} (h : MapO P k w b n f) (hm : ∀ s, f s = g s) : MapO P k w b n g := by
  have : f = g := funext hm
  rw [← this]; exact h
theorem MapO.look (h : MapO P k w b n f) (hk : P.underlying k = some .string) (ht : P.underlying t = some (.map k e)) (hz : (zeroValue e).run P w = .ok (.bool false) w) (s : ByteArray) (hs : s.size ≤ 1000000) :
    (Instr.lookup t (.map (some b)) (.string s) false).run P w = .ok (.bool (f s)) w := by
  obtain ⟨m, h1, h2⟩ := h
  rw [h1.look hk ht hz s hs, h2 s]
theorem MapO.put (h : MapO P k w b n f) (hk : P.underlying k = some .string) (ht : P.underlying t = some (.map k e)) (hn : n ≤ 1000000) (s : ByteArray) (hs : s.size ≤ 1000000) (v : Bool) :
    ∃ w', (Instr.mapUpdate t (.map (some b)) (.string s) (.bool v)).run P w = .ok () w' ∧ MapO P k w' b (n + 1) (fun q => if q = s then v else f q) ∧ But b w w' := by
  obtain ⟨m, h1, h2⟩ := h
  obtain ⟨w', hr, h3, h4⟩ := h1.put hk ht hn s hs (.bool v)
  refine ⟨w', hr, ⟨_, h3, fun p => ?_⟩, h4⟩
  by_cases hp : p = s
  · subst hp; rw [putS_same]; simp
  · rw [putS_other hp, h2 p]; simp [hp]
end

theorem isMoment_any (n : Int) (w : World) : Calls Tryz.prog 77 #[.int .i64 n] w fun e w' => e = .returned (.bool (decide (0 ≤ n ∧ n < 5761440))) ∧ w = w' := by
  by_cases h1 : 0 ≤ n
  · have d1 : decide (0 ≤ n) = true := by simpa using h1
    by_cases h2 : n < 5761440
    · have d2 : decide (n < 5761440) = true := by simpa using h2
      have HF := Lib.hid (show decide (0 ≤ n ∧ n < 5761440) = true from by simp [h1, h2])
      go_enter Tryz.func77, Tryz.ntmps77
      go_wp2_with fail
      go_ret
      exact ⟨by first | rfl | (rw [HF.out]; rfl), rfl⟩
    · have d2 : decide (n < 5761440) = false := by simpa using h2
      have HF := Lib.hid (show decide (0 ≤ n ∧ n < 5761440) = false from by simp [h2])
      go_enter Tryz.func77, Tryz.ntmps77
      go_wp2_with fail
      go_ret
      exact ⟨by first | rfl | (rw [HF.out]; rfl), rfl⟩
  · have d1 : decide (0 ≤ n) = false := by simpa using h1
    have HF := Lib.hid (show decide (0 ≤ n ∧ n < 5761440) = false from by simp [h1])
    go_enter Tryz.func77, Tryz.ntmps77
    go_wp2_with fail
    go_ret
    exact ⟨by first | rfl | (rw [HF.out]; rfl), rfl⟩
theorem moment_any (n : Int) (w : World) : Calls Tryz.prog 79 #[.int .i64 n] w fun e w' => e = .returned (.bool (decide (0 ≤ n ∧ n < 5761440))) ∧ w = w' := by
  have HF := Lib.hid (show decide (0 ≤ n ∧ n ≤ 5761439) = decide (0 ≤ n ∧ n < 5761440) from by
    by_cases h : 0 ≤ n ∧ n < 5761440
    · rw [decide_eq_true h, decide_eq_true (show 0 ≤ n ∧ n ≤ 5761439 by omega)]
    · rw [decide_eq_false h, decide_eq_false (show ¬ (0 ≤ n ∧ n ≤ 5761439) by omega)])
  obtain ⟨bv, hbv⟩ : ∃ bv, bv = decide (0 ≤ n ∧ n < 5761440) := ⟨_, rfl⟩
  rw [← hbv] at HF ⊢
  clear hbv
  go_enter Tryz.func79, Tryz.ntmps79
  go_wp2_with fail
  refine (in_any _ _ _ _).mono ?_
  rintro e w' ⟨rfl, rfl⟩
  rw [HF.out]
  go_wp2_with fail
  go_ret
  exact ⟨rfl, rfl⟩

theorem turn_ite (q p : ByteArray) (u v : Bool) : (if q = p then u else v) = if p = q then u else v := by
  by_cases h : p = q
  · rw [if_pos h, if_pos h.symm]
  · rw [if_neg h, if_neg (fun e => h e.symm)]

set_option maxRecDepth 100000 in
set_option maxHeartbeats 6400000 in
theorem turnsFault_any (a : Option Addr) (len cap : Nat) (xs : List Turn3) (w : World) (hs : Sl RTurn 3 (fun _ => True) w a len xs) (hl : len ≤ 1000000) :
    Calls Tryz.prog 135 #[.slice a len cap] w fun e w' => e = .returned (.int .i64 (turnsF xs)) ∧ All w w' := by
  have Hlen := Lib.hid hs.len
  by_cases hbig : 2000 < len
  · have hfin := Lib.hid (show turnsF xs = 2 from by rw [turnsF, if_pos (by have := Hlen.out; omega)])
    have hd : decide ((2000 : Int) < (len : Int)) = true := by simp; omega
    go_enter Tryz.func135, Tryz.ntmps135
    go_wp2_with fail
    go_ret
    exact ⟨ret_int' hfin.out.symm, Kept.refl _ _⟩
  · have hfin := Lib.hid (show turnsF xs = turnsG [] xs from by rw [turnsF, if_neg (by have := Hlen.out; omega)])
    have hd : decide ((2000 : Int) < (len : Int)) = false := by simp; omega
    have hmm := @run_makeMap Tryz.prog
    have hk0 : All w (w.alloc (.map #[] 0)) := Kept.alloc _ _ _
    have hm0 := MapO.made Tryz.prog 9 w
    obtain ⟨mb, hmb⟩ : ∃ mb, mb = w.heap.size := ⟨_, rfl⟩
    have HMB := Lib.hid hmb
    have HWm : w.heap.size ≤ mb := by omega
    rw [← hmb] at hm0
    replace hs := ((hs.live RTurn.ok (by decide)).mono RTurn.ok (G := fun k => k ≠ mb) (fun k hk => by have := hk.2; omega)).keep RTurn.ok (Kept.alloc _ w (.map #[] 0))
    clear hmb
    go_enter Tryz.func135, Tryz.ntmps135
    go_wp2_with fail
    simp only [← HMB.out]
    generalize w.alloc (.map #[] 0) = w1 at *
    have Hend := Lib.hid (show ∀ wx, But mb w1 wx → All w wx from fun wx hw => hk0.trans2 hw (fun i hi _ e => by omega))
    go_loopw [12] (fun i wr => ∃ k : Nat, k ≤ len ∧ i = .int .i64 k ∧ TurnAt xs k ∧ ∃ n, n ≤ k ∧ MapO Tryz.prog 9 wr mb n (lastOp (xs.take k)) ∧ But mb w1 wr) (fun i _ => len - (intOf i).toNat)
    case atStart => exact ⟨0, Nat.zero_le _, rfl, TurnAt.zero _, 0, Nat.le_refl _, hm0.congr (fun s => by simp [lastOp]), Kept.refl _ _⟩
    case round =>
      clear hm0 hmm
      obtain ⟨k, hk, rfl, hat, n, hnk, hmap, hwr⟩ := hrel
      obtain ⟨wo, rfl⟩ : ∃ wo : World, wo = wr := ⟨_, rfl⟩
      have HA := Lib.hid hat
      clear hat
      by_cases hlt : k < len
      · obtain ⟨b, off, x, ha, hbm, c0, c1, c2, hz1, hx, -, hxt⟩ := (hs.keep RTurn.ok hwr).atTurn hlt
        subst ha
        have Hx := Lib.hid hx
        have HXT := Lib.hid hxt
        have hblk := heap_at wo (.cells #[.int .i64 x.tm, .string x.paper, .bool x.op] 121) _ rfl
        have e0 := cell_at (i := 0) hblk rfl
        have e1 := cell_at (i := 1) hblk rfl
        have e2 := cell_at (i := 2) hblk rfl
        have hka : All wo (wo.alloc (.cells #[.int .i64 x.tm, .string x.paper, .bool x.op] 121)) := Kept.alloc _ _ _
        obtain ⟨tb, htb⟩ : ∃ b, b = wo.heap.size := ⟨_, rfl⟩
        have Htb := Lib.hid htb
        rw [← htb] at e0 e1 e2
        clear hx hxt hblk htb
        have hwa : But mb w1 (wo.alloc (.cells #[.int .i64 x.tm, .string x.paper, .bool x.op] 121)) := hwr.then_alloc _
        have hmapa := hmap.keep hka trivial
        have hsa := hs.keep RTurn.ok hwa
        clear hmap
        by_cases hm1 : x.tm < 0 ∨ 5761440 ≤ x.tm
        · have hdm : decide (0 ≤ x.tm ∧ x.tm < 5761440) = false := decide_eq_false (by omega)
          have HM := Lib.hid hm1
          clear hm1
          go_wp2_with fail
          rw [← Htb.out]
          refine (isMoment_any _ _).mono ?_
          rintro e w' ⟨rfl, hh⟩
          subst hh
          rw [hdm]
          go_wp2_with fail
          go_ret
          exact ⟨ret_int' (by rw [hfin.out]; exact (HA.out.bad Hx.out (turnF_arg HM.out) (by decide)).symm), Hend.out _ hwa⟩
        · have hdm : decide (0 ≤ x.tm ∧ x.tm < 5761440) = true := decide_eq_true (by omega)
          have HM := Lib.hid hm1
          clear hm1
          go_wp2_with fail
          rw [← Htb.out]
          refine (isMoment_any _ _).mono ?_
          rintro e w' ⟨rfl, hh⟩
          subst hh
          rw [hdm]
          generalize wo.alloc (.cells #[.int .i64 x.tm, .string x.paper, .bool x.op] 121) = wa at *
          go_upto_region 9 with fail
          go_cut [22] (fun v wx => v = .bool (earlier (xs.take k).getLast? x) ∧ All wa wx)
          case first =>
            rcases Nat.eq_zero_or_pos k with hk0 | hk0
            · subst hk0
              have hgd : decide ((0 : Int) < ((0 : Nat) : Int)) = false := by simp
              have HO := Lib.hid (show earlier (xs.take 0).getLast? x = false by simp [earlier])
              go_quiet (fail)
              go_wp2_with fail
              go_meet
              exact ⟨by rw [HO.out], Kept.drewN _ _ _⟩
            · obtain ⟨kp, rfl⟩ : ∃ kp, k = kp + 1 := ⟨k - 1, by omega⟩
              obtain ⟨bq, oq, y, haq, -, p0, -, -, -, hy, -, -⟩ := hsa.atTurn (k := kp) (by omega)
              cases haq
              have HO := Lib.hid (show earlier (xs.take (kp + 1)).getLast? x = decide (x.tm < y.tm) by rw [last_take hy]; rfl)
              have f1 : IntKind.i64.wrap (kp : Int) = (kp : Int) := IntWalk.i64_in _ (by omega)
              have f3 : (0 : Int) ≤ (kp : Int) := by omega
              have f4 : (kp : Int) < (len : Int) := by omega
              clear hy
              go_quiet (fail)
              go_wp2_with fail
              go_meet
              exact ⟨by rw [HO.out], Kept.drewN _ _ _⟩
          case rest =>
            obtain ⟨rfl, hx⟩ := hcut
            obtain ⟨w2, rfl⟩ : ∃ y : World, y = wc := ⟨_, rfl⟩
            replace e0 := hx.cell e0 trivial
            replace e1 := hx.cell e1 trivial
            replace e2 := hx.cell e2 trivial
            have hw2 : But mb w1 w2 := hwa.trans (Kept.all hx)
            have hmap2 := hmapa.keep hx trivial
            clear hsa hmapa hwa
            cases hor : earlier (xs.take k).getLast? x with
            | true =>
              have HO := Lib.hid hor
              go_wp2_with fail
              go_ret
              exact ⟨ret_int' (by rw [hfin.out]; exact (HA.out.bad Hx.out (turnF_order HM.out HO.out) (by decide)).symm), Hend.out _ hw2⟩
            | false =>
              have HO := Lib.hid hor
              cases hky : isKeyB x.paper with
              | false =>
                go_wp2_with fail
                refine (isKey_any _ _ (by omega)).mono ?_
                rintro e w' ⟨rfl, hh⟩
                subst hh
                rw [hky]
                go_wp2_with fail
                go_ret
                exact ⟨ret_int' (by rw [hfin.out]; exact (HA.out.bad Hx.out (turnF_name HM.out HO.out hky) (by decide)).symm), Hend.out _ hw2⟩
              | true =>
                have HK := Lib.hid hky
                have l1 := hmap2.look Tryz.underlying9 Tryz.underlying142 (Tryz.zeroValue4 w2) x.paper hz1
                obtain ⟨w3, hput, hmap3, hb3⟩ := hmap2.put Tryz.underlying9 Tryz.underlying142 (by omega) x.paper hz1 x.op
                have hw3 : But mb w1 w3 := hw2.trans hb3
                obtain ⟨ob, hob⟩ : ∃ ob, ob = lastOp (xs.take k) x.paper := ⟨_, rfl⟩
                have HOB := Lib.hid hob
                rw [← hob] at l1
                clear hob hmap2
                by_cases hst : ob = x.op
                · have d : (ob == x.op) = true := by simp [hst]
                  have HS := Lib.hid (show lastOp (xs.take k) x.paper = x.op from by rw [← HOB.out]; exact hst)
                  clear hst
                  go_wp2_with fail
                  refine (isKey_any _ _ (by omega)).mono ?_
                  rintro e w' ⟨rfl, hh⟩
                  subst hh
                  rw [hky]
                  go_wp2_with fail
                  go_ret
                  exact ⟨ret_int' (by rw [hfin.out]; exact (HA.out.bad Hx.out (turnF_state HM.out HO.out HK.out HS.out) (by decide)).symm), Hend.out _ hw2⟩
                · have d : (ob == x.op) = false := by simp [hst]
                  have HS := Lib.hid (show ¬ lastOp (xs.take k) x.paper = x.op from by rw [← HOB.out]; exact hst)
                  clear hst
                  go_wp2_with fail
                  refine (isKey_any _ _ (by omega)).mono ?_
                  rintro e w' ⟨rfl, hh⟩
                  subst hh
                  rw [hky]
                  go_wp2_with fail
                  go_roundw
                  case rel => exact ⟨k + 1, by omega, by go_num, HA.out.next Hx.out (turnF_ok HM.out HO.out HK.out HS.out), n + 1, by omega, hmap3.congr (fun q => by rw [HXT.out, lastOp_snoc]; exact turn_ite _ _ _ _), hw3⟩
                  case measure => simp [intOf]; omega
      · have hdk : decide ((k : Int) < (len : Int)) = false := by simp; omega
        go_wp2_with fail
        go_ret
        exact ⟨ret_int' (by rw [hfin.out]; exact (HA.out.ok (by have := Hlen.out; omega)).symm), Hend.out _ hwr⟩
end Go.Proofs.YtllkemadaemjeaaGreatDoor
