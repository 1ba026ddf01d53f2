/- beats and BeatsOf compute beatsF. -/
import Derived.Test.YteanedcfiellkaaDoorPf
namespace Go.Proofs.YteanedcfiellkaaDoor
open Go.RowKit

def beatBy (i k m : Int) : Int := if 0 ≤ i ∧ (k < 0 ∨ i < k) then m else if 0 ≤ k ∧ (i < 0 ∨ k < i) then -m else 0
def beat1 (x y : ByteArray) (z : Bal) : Int := beatBy (idxFrom x 0 z.ranks) (idxFrom y 0 z.ranks) z.many
def beatsF (x y : ByteArray) : List Bal → Int
  | [] => 0
  | z :: l => beat1 x y z + beatsF x y l
theorem beatsF_append (x y : ByteArray) (a b : List Bal) : beatsF x y (a ++ b) = beatsF x y a + beatsF x y b := by
  induction a with
  | nil => simp [beatsF]
  | cons z l ih => simp only [List.cons_append, beatsF, ih]; omega
theorem beatsF_take {x y : ByteArray} {bs : List Bal} {k : Nat} {z : Bal} (h : bs[k]? = some z) : beatsF x y (bs.take (k + 1)) = beatsF x y (bs.take k) + beat1 x y z := by
  obtain ⟨hk, rfl⟩ := List.getElem?_eq_some_iff.1 h
  rw [List.take_succ_eq_append_getElem hk, beatsF_append]
  simp [beatsF]
theorem beat1_le (x y : ByteArray) (z : Bal) (h : -2000000000000 ≤ z.many ∧ z.many ≤ 2000000000000) : -2000000000000 ≤ beat1 x y z ∧ beat1 x y z ≤ 2000000000000 := by
  unfold beat1 beatBy
  split
  · exact h
  · split <;> omega
theorem beats_take {bs : List Bal} (h : SumOk bs) (x y : ByteArray) : ∀ k, k ≤ 300 → -2000000000000 * k ≤ beatsF x y (bs.take k) ∧ beatsF x y (bs.take k) ≤ 2000000000000 * k := by
  intro k hk
  induction k with
  | zero => simp [beatsF]
  | succ k ih =>
    have ih := ih (by omega)
    by_cases hl : k < bs.length
    · have hx := List.getElem?_eq_getElem hl
      rw [beatsF_take hx]
      have := beat1_le x y _ (h.2 _ (List.getElem_mem hl))
      omega
    · rw [List.take_of_length_le (by omega)] at ih ⊢
      omega
theorem quiet_left {P : Program} {f : FuncId} {args : Array Value} {w : World} {n : Nat} {v : Value}
    (h : Calls P f args (w.drewN n) fun e w' => e = .returned v ∧ w.drewN n = w') : Calls P f args (w.drewN n) fun e w'' => e = .returned v ∧ ∃ m, w'' = w.drewN m :=
  h.mono fun _ _ ⟨he, hm⟩ => ⟨he, n, hm.symm⟩

set_option maxHeartbeats 1600000 in
theorem beats_any (a : Option Addr) (len cap : Nat) (bs : List Bal) (x y : ByteArray) (w : World) (hs : Sl RBal 2 (fun _ => True) w a len bs) (hl : SumOk bs) (hbr : ∀ x ∈ bs, x.ranks.length ≤ 1000000) :
    Calls Tryd.prog 69 #[.slice a len cap, .string x, .string y] w fun e w' => e = .returned (.int .i64 (beatsF x y bs)) ∧ All w w' := by
  have hlen := hs.len
  have hl3 := hl.1
  go_enter Tryd.func69, Tryd.ntmps69
  go_wp2
  go_loopw [7, 14] (fun n i wr => ∃ k : Nat, k ≤ len ∧ i = .int .i64 k ∧ n = .int .i64 (beatsF x y (bs.take k)) ∧ All w wr) (fun _ i _ => len - (intOf i).toNat)
  case atStart => exact ⟨0, Nat.zero_le _, rfl, rfl, Kept.refl _ _⟩
  case round =>
    obtain ⟨k, hk, rfl, rfl, hall⟩ := hrel
    by_cases hlt : k < len
    · obtain ⟨b, off, z, ar, cr, ha, hF, c0, c1, hcr, hr, hx, hm⟩ := (hs.keep RBal.ok hall).atBal hlt
      subst ha
      have hb := beats_take hl x y k (by omega)
      have hzb := hl.2 z hm
      have hzr := hbr z hm
      have hsum := Lib.hid (beatsF_take (x := x) (y := y) hx)
      obtain ⟨hb1, hb2⟩ := hb
      obtain ⟨hz1, hz2⟩ := hzb
      have hb3 : -600000000000000 ≤ beatsF x y (bs.take k) := by omega
      have hb4 : beatsF x y (bs.take k) ≤ 600000000000000 := by omega
      have hIx := fun n => quiet_left (n := n) (index_any ar z.ranks.length cr z.ranks x ((wr.alloc (.cells #[.int .i64 z.many, .slice ar z.ranks.length cr] 96)).drewN n) ((hr.keep RStr.ok (Kept.alloc _ _ _)).keep RStr.ok (Kept.drewN _ _ _)) hzr)
      have hIy := fun n => quiet_left (n := n) (index_any ar z.ranks.length cr z.ranks y ((wr.alloc (.cells #[.int .i64 z.many, .slice ar z.ranks.length cr] 96)).drewN n) ((hr.keep RStr.ok (Kept.alloc _ _ _)).keep RStr.ok (Kept.drewN _ _ _)) hzr)
      have hone : beat1 x y z = beatBy (idxFrom x 0 z.ranks) (idxFrom y 0 z.ranks) z.many := rfl
      generalize idxFrom x 0 z.ranks = ix at hIx hone
      generalize idxFrom y 0 z.ranks = iy at hIy hone
      have HIx := Lib.hid hIx
      have HIy := Lib.hid hIy
      have Hone := Lib.hid hone
      clear hs hr hl hb1 hb2 hIx hIy hone hbr
      go_wp2_with fail
      go_quiet (first | (go_at_call 72; first | with_reducible exact HIx.out _ | with_reducible exact HIy.out _))
      by_cases g1 : 0 ≤ ix ∧ (iy < 0 ∨ ix < iy)
      · have hv : beat1 x y z = z.many := by rw [Hone.out]; unfold beatBy; rw [if_pos g1]
        have Hv := Lib.hid hv
        obtain ⟨g2, g3⟩ := g1
        clear hv
        have e1 : decide (0 ≤ ix) = true := by simpa using g2
        by_cases g4 : iy < 0
        · have e2 : decide (iy < 0) = true := by simpa using g4
          go_wp2_with fail
          go_roundw
          case rel => exact ⟨k + 1, by omega, by go_num, by rw [hsum.out, Hv.out], (hall.then_alloc _).then_drewN _⟩
          case measure => simp [intOf]; omega
        · have e2 : decide (iy < 0) = false := by simpa using g4
          have g5 : ix < iy := by omega
          have e3 : decide (ix < iy) = true := by simpa using g5
          go_wp2_with fail
          go_roundw
          case rel => exact ⟨k + 1, by omega, by go_num, by rw [hsum.out, Hv.out], (hall.then_alloc _).then_drewN _⟩
          case measure => simp [intOf]; omega
      · by_cases g6 : 0 ≤ iy ∧ (ix < 0 ∨ iy < ix)
        · have hv : beat1 x y z = -z.many := by rw [Hone.out]; unfold beatBy; rw [if_neg g1, if_pos g6]
          have Hv := Lib.hid hv
          obtain ⟨g2, g3⟩ := g6
          clear hv
          by_cases g4 : ix < 0
          · have e1 : decide (0 ≤ ix) = false := by simp; omega
            have e2 : decide (0 ≤ iy) = true := by simpa using g2
            have e3 : decide (ix < 0) = true := by simpa using g4
            clear g1
            go_wp2_with fail
            go_roundw
            case rel => exact ⟨k + 1, by omega, by go_num, by rw [hsum.out, Hv.out]; go_num, (hall.then_alloc _).then_drewN _⟩
            case measure => simp [intOf]; omega
          · have e1 : decide (0 ≤ ix) = true := by simp; omega
            have e2 : decide (0 ≤ iy) = true := by simpa using g2
            have e3 : decide (ix < 0) = false := by simpa using g4
            have e4 : decide (iy < 0) = false := by simp; omega
            have e5 : decide (ix < iy) = false := by simp; omega
            have e6 : decide (iy < ix) = true := by simp; omega
            clear g1
            go_wp2_with fail
            go_roundw
            case rel => exact ⟨k + 1, by omega, by go_num, by rw [hsum.out, Hv.out]; go_num, (hall.then_alloc _).then_drewN _⟩
            case measure => simp [intOf]; omega
        · have hv : beat1 x y z = 0 := by rw [Hone.out]; unfold beatBy; rw [if_neg g1, if_neg g6]
          have Hv := Lib.hid hv
          clear hv
          have h7 : (ix < 0 ∧ iy < 0) ∨ (0 ≤ ix ∧ ix = iy) := by omega
          rcases h7 with ⟨g7, g8⟩ | ⟨g7, g8⟩
          · have e1 : decide (0 ≤ ix) = false := by simp; omega
            have e2 : decide (0 ≤ iy) = false := by simp; omega
            clear g1 g6
            go_wp2_with fail
            go_roundw
            case rel => exact ⟨k + 1, by omega, by go_num, by rw [hsum.out, Hv.out]; simp, (hall.then_alloc _).then_drewN _⟩
            case measure => simp [intOf]; omega
          · subst g8
            have e1 : decide (0 ≤ ix) = true := by simpa using g7
            have e2 : decide (ix < 0) = false := by simp; omega
            have e3 : decide (ix < ix) = false := by simp
            clear g1 g6
            go_wp2_with fail
            go_roundw
            case rel => exact ⟨k + 1, by omega, by go_num, by rw [hsum.out, Hv.out]; simp, (hall.then_alloc _).then_drewN _⟩
            case measure => simp [intOf]; omega
    · have hd : decide ((k : Int) < (len : Int)) = false := by simp; omega
      have hfin : bs.take k = bs := List.take_of_length_le (by omega)
      rw [hfin]
      go_wp2_with fail
      go_ret
      exact ⟨rfl, hall⟩

set_option maxHeartbeats 1600000 in
theorem beatsOf_any (a : Option Addr) (len cap : Nat) (bs : List Bal) (x y : ByteArray) (w : World) (hs : Sl RBal 2 (fun _ => True) w a len bs) (hl : SumOk bs) (hbr : ∀ x ∈ bs, x.ranks.length ≤ 1000000) :
    Calls Tryd.prog 25 #[.slice a len cap, .string x, .string y] w fun e w' => e = .returned (.int .i64 (beatsF x y bs)) ∧ All w w' := by
  have hlen := hs.len
  have hl3 := hl.1
  go_enter Tryd.func25, Tryd.ntmps25
  go_wp2
  go_loopw [7, 14] (fun n i wr => ∃ k : Nat, k ≤ len ∧ i = .int .i64 k ∧ n = .int .i64 (beatsF x y (bs.take k)) ∧ All w wr) (fun _ i _ => len - (intOf i).toNat)
  case atStart => exact ⟨0, Nat.zero_le _, rfl, rfl, Kept.refl _ _⟩
  case round =>
    obtain ⟨k, hk, rfl, rfl, hall⟩ := hrel
    by_cases hlt : k < len
    · obtain ⟨b, off, z, ar, cr, ha, hF, c0, c1, hcr, hr, hx, hm⟩ := (hs.keep RBal.ok hall).atBal hlt
      subst ha
      have hb := beats_take hl x y k (by omega)
      have hzb := hl.2 z hm
      have hzr := hbr z hm
      have hsum := Lib.hid (beatsF_take (x := x) (y := y) hx)
      obtain ⟨hb1, hb2⟩ := hb
      obtain ⟨hz1, hz2⟩ := hzb
      have hb3 : -600000000000000 ≤ beatsF x y (bs.take k) := by omega
      have hb4 : beatsF x y (bs.take k) ≤ 600000000000000 := by omega
      have hIx := fun n => quiet_left (n := n) (index_any ar z.ranks.length cr z.ranks x ((wr.alloc (.cells #[.int .i64 z.many, .slice ar z.ranks.length cr] 96)).drewN n) ((hr.keep RStr.ok (Kept.alloc _ _ _)).keep RStr.ok (Kept.drewN _ _ _)) hzr)
      have hIy := fun n => quiet_left (n := n) (index_any ar z.ranks.length cr z.ranks y ((wr.alloc (.cells #[.int .i64 z.many, .slice ar z.ranks.length cr] 96)).drewN n) ((hr.keep RStr.ok (Kept.alloc _ _ _)).keep RStr.ok (Kept.drewN _ _ _)) hzr)
      have hone : beat1 x y z = beatBy (idxFrom x 0 z.ranks) (idxFrom y 0 z.ranks) z.many := rfl
      generalize idxFrom x 0 z.ranks = ix at hIx hone
      generalize idxFrom y 0 z.ranks = iy at hIy hone
      have HIx := Lib.hid hIx
      have HIy := Lib.hid hIy
      have Hone := Lib.hid hone
      clear hs hr hl hb1 hb2 hIx hIy hone hbr
      go_wp2_with fail
      go_quiet (first | (go_at_call 72; first | with_reducible exact HIx.out _ | with_reducible exact HIy.out _))
      by_cases g1 : 0 ≤ ix ∧ (iy < 0 ∨ ix < iy)
      · have hv : beat1 x y z = z.many := by rw [Hone.out]; unfold beatBy; rw [if_pos g1]
        have Hv := Lib.hid hv
        obtain ⟨g2, g3⟩ := g1
        clear hv
        have e1 : decide (0 ≤ ix) = true := by simpa using g2
        by_cases g4 : iy < 0
        · have e2 : decide (iy < 0) = true := by simpa using g4
          go_wp2_with fail
          go_roundw
          case rel => exact ⟨k + 1, by omega, by go_num, by rw [hsum.out, Hv.out], (hall.then_alloc _).then_drewN _⟩
          case measure => simp [intOf]; omega
        · have e2 : decide (iy < 0) = false := by simpa using g4
          have g5 : ix < iy := by omega
          have e3 : decide (ix < iy) = true := by simpa using g5
          go_wp2_with fail
          go_roundw
          case rel => exact ⟨k + 1, by omega, by go_num, by rw [hsum.out, Hv.out], (hall.then_alloc _).then_drewN _⟩
          case measure => simp [intOf]; omega
      · by_cases g6 : 0 ≤ iy ∧ (ix < 0 ∨ iy < ix)
        · have hv : beat1 x y z = -z.many := by rw [Hone.out]; unfold beatBy; rw [if_neg g1, if_pos g6]
          have Hv := Lib.hid hv
          obtain ⟨g2, g3⟩ := g6
          clear hv
          by_cases g4 : ix < 0
          · have e1 : decide (0 ≤ ix) = false := by simp; omega
            have e2 : decide (0 ≤ iy) = true := by simpa using g2
            have e3 : decide (ix < 0) = true := by simpa using g4
            clear g1
            go_wp2_with fail
            go_roundw
            case rel => exact ⟨k + 1, by omega, by go_num, by rw [hsum.out, Hv.out]; go_num, (hall.then_alloc _).then_drewN _⟩
            case measure => simp [intOf]; omega
          · have e1 : decide (0 ≤ ix) = true := by simp; omega
            have e2 : decide (0 ≤ iy) = true := by simpa using g2
            have e3 : decide (ix < 0) = false := by simpa using g4
            have e4 : decide (iy < 0) = false := by simp; omega
            have e5 : decide (ix < iy) = false := by simp; omega
            have e6 : decide (iy < ix) = true := by simp; omega
            clear g1
            go_wp2_with fail
            go_roundw
            case rel => exact ⟨k + 1, by omega, by go_num, by rw [hsum.out, Hv.out]; go_num, (hall.then_alloc _).then_drewN _⟩
            case measure => simp [intOf]; omega
        · have hv : beat1 x y z = 0 := by rw [Hone.out]; unfold beatBy; rw [if_neg g1, if_neg g6]
          have Hv := Lib.hid hv
          clear hv
          have h7 : (ix < 0 ∧ iy < 0) ∨ (0 ≤ ix ∧ ix = iy) := by omega
          rcases h7 with ⟨g7, g8⟩ | ⟨g7, g8⟩
          · have e1 : decide (0 ≤ ix) = false := by simp; omega
            have e2 : decide (0 ≤ iy) = false := by simp; omega
            clear g1 g6
            go_wp2_with fail
            go_roundw
            case rel => exact ⟨k + 1, by omega, by go_num, by rw [hsum.out, Hv.out]; simp, (hall.then_alloc _).then_drewN _⟩
            case measure => simp [intOf]; omega
          · subst g8
            have e1 : decide (0 ≤ ix) = true := by simpa using g7
            have e2 : decide (ix < 0) = false := by simp; omega
            have e3 : decide (ix < ix) = false := by simp
            clear g1 g6
            go_wp2_with fail
            go_roundw
            case rel => exact ⟨k + 1, by omega, by go_num, by rw [hsum.out, Hv.out]; simp, (hall.then_alloc _).then_drewN _⟩
            case measure => simp [intOf]; omega
    · have hd : decide ((k : Int) < (len : Int)) = false := by simp; omega
      have hfin : bs.take k = bs := List.take_of_length_le (by omega)
      rw [hfin]
      go_wp2_with fail
      go_ret
      exact ⟨rfl, hall⟩
end Go.Proofs.YteanedcfiellkaaDoor
