/- BinarySearchFunc of pairs that rise; isIn; the closures of CheckBoard and BoardFault that ask whether a pair is barred. -/
import Derived.Test.YtllkemadaemjeaaGreatDoorBb
import Derived.Test.YtllkemadaemjeaaGreatDoorBc
namespace Go.Proofs.YtllkemadaemjeaaGreatDoor
open Go.RowKit

theorem cmpP_zero {a1 a2 b1 b2 : ByteArray} : cmpP a1 a2 b1 b2 = 0 ↔ a1 = b1 ∧ a2 = b2 := by
  unfold cmpP
  by_cases h : Lib.compareBytes a1.data.toList b1.data.toList = 0
  · rw [if_neg (by simp [h])]
    have e : a1 = b1 := Go.WideShapes.bytes_inj ((cmp_zero _ _).1 h)
    constructor
    · intro h2; exact ⟨e, Go.WideShapes.bytes_inj ((cmp_zero _ _).1 h2)⟩
    · rintro ⟨-, rfl⟩; exact (cmp_zero _ _).2 rfl
  · rw [if_pos h]
    constructor
    · intro h2; exact absurd h2 h
    · rintro ⟨rfl, -⟩; exact absurd ((cmp_zero _ _).2 rfl) h
/-- What is before place lo is before q; what is from hi on is not. -/
def BndP (xs : List Pair2) (q : Pair2) (lo hi : Nat) : Prop :=
  (∀ (t : Nat) (f : Pair2), xs[t]? = some f → t < lo → ltPP f q) ∧ (∀ (t : Nat) (f : Pair2), xs[t]? = some f → hi ≤ t → ¬ ltPP f q)
theorem BndP.start (xs : List Pair2) (q : Pair2) : BndP xs q 0 xs.length :=
  ⟨fun _ _ _ h => absurd h (by omega), fun t f h1 h2 => by rw [List.getElem?_eq_none h2] at h1; cases h1⟩
theorem rises_lt {xs : List Pair2} (h : xs.Pairwise ltPP) {i j : Nat} {x y : Pair2} (hi : xs[i]? = some x) (hj : xs[j]? = some y) (hij : i < j) : ltPP x y := by
  obtain ⟨h1, rfl⟩ := List.getElem?_eq_some_iff.1 hi
  obtain ⟨h2, rfl⟩ := List.getElem?_eq_some_iff.1 hj
  exact List.pairwise_iff_getElem.1 h i j h1 h2 hij
theorem BndP.up {xs : List Pair2} {q : Pair2} {lo hi m : Nat} {y : Pair2} (h : BndP xs q lo hi) (hr : xs.Pairwise ltPP) (hy : xs[m]? = some y) (hc : ltPP y q) : BndP xs q (m + 1) hi := by
  refine ⟨fun t f hf ht => ?_, h.2⟩
  by_cases e : t = m
  · subst e; rw [hf] at hy; cases hy; exact hc
  · exact ltPP_trans (rises_lt hr hf hy (by omega)) hc
theorem BndP.down {xs : List Pair2} {q : Pair2} {lo hi m : Nat} {y : Pair2} (h : BndP xs q lo hi) (hr : xs.Pairwise ltPP) (hy : xs[m]? = some y) (hc : ¬ ltPP y q) : BndP xs q lo m := by
  refine ⟨h.1, fun t f hf ht hb => ?_⟩
  by_cases e : t = m
  · subst e; rw [hf] at hy; cases hy; exact hc hb
  · exact hc (ltPP_trans (rises_lt hr hy hf (by omega)) hb)
theorem ltPP_irrefl {x y : Pair2} (h1 : y.paper = x.paper) (h2 : y.person = x.person) : ¬ ltPP y x := by
  unfold ltPP
  rw [cmpP_zero.2 ⟨h1, h2⟩]
  omega
theorem foundP {xs : List Pair2} {q y : Pair2} {lo : Nat} (hr : xs.Pairwise ltPP) (hb : BndP xs q lo lo) (hy : xs[lo]? = some y) : inP xs q.paper q.person = decide (cmpP y.paper y.person q.paper q.person = 0) := by
  by_cases e : cmpP y.paper y.person q.paper q.person = 0
  · rw [decide_eq_true e]
    rw [inP, List.any_eq_true]
    exact ⟨y, List.mem_of_getElem? hy, by simpa using cmpP_zero.1 e⟩
  · rw [decide_eq_false e]
    cases hin : inP xs q.paper q.person with
    | false => rfl
    | true =>
      exfalso
      rw [inP, List.any_eq_true] at hin
      obtain ⟨z, hz, hzq⟩ := hin
      have hzq' : z.paper = q.paper ∧ z.person = q.person := by simpa using hzq
      obtain ⟨t, ht⟩ := List.getElem?_of_mem hz
      by_cases h1 : t < lo
      · exact ltPP_irrefl hzq'.1 hzq'.2 (hb.1 t z ht h1)
      · by_cases h2 : t = lo
        · subst h2; rw [hy] at ht; cases ht; exact e (cmpP_zero.2 hzq')
        · have h3 := rises_lt hr hy ht (by omega)
          unfold ltPP at h3
          rw [hzq'.1, hzq'.2] at h3
          exact hb.2 lo y hy (Nat.le_refl _) h3
theorem foundP_no {xs : List Pair2} {q : Pair2} (hb : BndP xs q xs.length xs.length) : inP xs q.paper q.person = false := by
  cases hin : inP xs q.paper q.person with
  | false => rfl
  | true =>
    exfalso
    rw [inP, List.any_eq_true] at hin
    obtain ⟨z, hz, hzq⟩ := hin
    have hzq' : z.paper = q.paper ∧ z.person = q.person := by simpa using hzq
    obtain ⟨t, ht⟩ := List.getElem?_of_mem hz
    have hl := (List.getElem?_eq_some_iff.1 ht).1
    exact ltPP_irrefl hzq'.1 hzq'.2 (hb.1 t z ht hl)

def SearchPost (xs : List Pair2) (q : Pair2) (w : World) (e : Ending) (w' : World) : Prop := (∃ n : Int, e = .returned (.tuple #[.int .i64 n, .bool (inP xs q.paper q.person)])) ∧ All w w'

set_option maxRecDepth 100000 in
set_option maxHeartbeats 3200000 in
theorem binSearchP_any (a : Option Addr) (len cap : Nat) (xs : List Pair2) (q : Pair2) (w : World) (hs : Sl RPair 2 (fun _ => True) w a len xs) (hl : len ≤ 1000000) (hr : xs.Pairwise ltPP) :
    Calls Tryz.prog 168 #[.slice a len cap, .agg #[.string q.paper, .string q.person], .func (.func 151) #[] #[]] w (SearchPost xs q w) := by
  have Hlen := Lib.hid hs.len
  have HR := Lib.hid hr
  have HB := Lib.hid (BndP.start xs q)
  have eg : ∀ args w, (callFunc 151 args).run Tryz.prog w = .ok (.enter 151 args) w := enters_of Tryz.func151 (by kernel_rfl) rfl
  have hk1 : All w (w.alloc (.cells #[.string q.paper, .string q.person] 101)) := Kept.alloc _ _ _
  have hblk := heap_at w (.cells #[.string q.paper, .string q.person] 101) _ rfl
  have r0 := cell_at (i := 0) hblk rfl
  have r1 := cell_at (i := 1) hblk rfl
  have HQ := Lib.hid (fun (wx : World) (k : All (w.alloc (.cells #[.string q.paper, .string q.person] 101)) wx) => (⟨k.cell r0 trivial, k.cell r1 trivial⟩ : _ ∧ _))
  have hs1 := hs.keep RPair.ok hk1
  obtain ⟨tb, htb⟩ : ∃ b, b = w.heap.size := ⟨_, rfl⟩
  rw [← htb] at HQ
  have Htb := Lib.hid htb
  clear hr hblk r0 r1 hs htb
  go_enter Tryz.func168, Tryz.ntmps168
  go_wp2_with fail
  rw [← Htb.out]
  clear Htb
  generalize w.alloc (.cells #[.string q.paper, .string q.person] 101) = w1 at *
  go_loopw [9, 10] (fun i j wr => ∃ lo hi : Nat, i = .int .i64 lo ∧ j = .int .i64 hi ∧ lo ≤ hi ∧ hi ≤ len ∧ BndP xs q lo hi ∧ All w1 wr) (fun i j _ => (intOf j - intOf i).toNat)
  case atStart => exact ⟨0, len, rfl, rfl, Nat.zero_le _, Nat.le_refl _, by have := HB.out; rw [Hlen.out] at this; exact this, Kept.refl _ _⟩
  case round =>
    obtain ⟨lo, hi, rfl, rfl, hle, hhi, hb, hall⟩ := hrel
    obtain ⟨wo, rfl⟩ : ∃ wo : World, wo = wr := ⟨_, rfl⟩
    obtain ⟨r0, r1⟩ := HQ.out _ hall
    by_cases hlt : lo < hi
    · obtain ⟨m, hm⟩ : ∃ m, m = (lo + hi) / 2 := ⟨_, rfl⟩
      have Hm := Lib.hid hm
      have Hmi := Lib.hid (show ((lo : Int) + (hi : Int)) / 2 = (m : Int) by omega)
      have hml : m < hi := by omega
      have hml2 : lo ≤ m := by omega
      obtain ⟨b, off, y, ha, -, c0, c1, hy, -, -⟩ := (hs1.keep RPair.ok hall).atPair (k := m) (by omega)
      subst ha
      have Hy := Lib.hid hy
      have Hb := Lib.hid hb
      have f4 : (m : Int) < (len : Int) := by omega
      clear hy hb hs1 hm
      by_cases hc : ltPP y q
      · have hn := Lib.hid (Hb.out.up HR.out Hy.out hc)
        have hd : decide (cmpP y.paper y.person q.paper q.person < 0) = true := decide_eq_true hc
        clear hc
        go_wp2_with fail
        rw [Hmi.out]
        go_region_held3 (fun w' => w'.cell? ⟨b, off + m * 2, none⟩ = some (.string y.paper) ∧ w'.cell? ⟨b, off + m * 2 + 1, none⟩ = some (.string y.person) ∧ w'.cell? ⟨tb, 0, none⟩ = some (.string q.paper) ∧ w'.cell? ⟨tb, 1, none⟩ = some (.string q.person)) (first | go_keep | exact ⟨by assumption, by assumption, by assumption, by assumption⟩) (first | (go_at_call 151; refine (comparePairs_any _ _ _ _ _).mono ?_; rintro e wq ⟨rfl, hq⟩; have hp1 : All wo wq := Kept.trans (by repeat (first | exact Kept.refl _ _ | refine Kept.then_drew ?_ | refine Kept.then_drewN ?_ _ | refine Kept.then_alloc ?_ _)) hq; have a0 := hp1.cell c0 trivial; have a1 := hp1.cell c1 trivial; have a2 := hp1.cell r0 trivial; have a3 := hp1.cell r1 trivial))
        go_wp2_with fail
        go_roundw
        case rel => exact ⟨m + 1, hi, by go_num, rfl, by omega, hhi, hn.out, hall.trans hp1⟩
        case measure => simp [intOf]; omega
      · have hn := Lib.hid (Hb.out.down HR.out Hy.out hc)
        have hd : decide (cmpP y.paper y.person q.paper q.person < 0) = false := decide_eq_false hc
        clear hc
        go_wp2_with fail
        rw [Hmi.out]
        go_region_held3 (fun w' => w'.cell? ⟨b, off + m * 2, none⟩ = some (.string y.paper) ∧ w'.cell? ⟨b, off + m * 2 + 1, none⟩ = some (.string y.person) ∧ w'.cell? ⟨tb, 0, none⟩ = some (.string q.paper) ∧ w'.cell? ⟨tb, 1, none⟩ = some (.string q.person)) (first | go_keep | exact ⟨by assumption, by assumption, by assumption, by assumption⟩) (first | (go_at_call 151; refine (comparePairs_any _ _ _ _ _).mono ?_; rintro e wq ⟨rfl, hq⟩; have hp1 : All wo wq := Kept.trans (by repeat (first | exact Kept.refl _ _ | refine Kept.then_drew ?_ | refine Kept.then_drewN ?_ _ | refine Kept.then_alloc ?_ _)) hq; have a0 := hp1.cell c0 trivial; have a1 := hp1.cell c1 trivial; have a2 := hp1.cell r0 trivial; have a3 := hp1.cell r1 trivial))
        go_wp2_with fail
        go_roundw
        case rel => exact ⟨lo, m, rfl, by go_num, by omega, by omega, hn.out, hall.trans hp1⟩
        case measure => simp [intOf]; omega
    · have hd : decide ((lo : Int) < (hi : Int)) = false := by simp; omega
      have hb2 : BndP xs q lo lo := by
        have he : hi = lo := by omega
        rw [he] at hb; exact hb
      have Hb2 := Lib.hid hb2
      clear hb hb2
      by_cases hll : lo < len
      · obtain ⟨b, off, y, ha, -, c0, c1, hy, -, -⟩ := (hs1.keep RPair.ok hall).atPair hll
        subst ha
        have hfo := Lib.hid (foundP HR.out Hb2.out hy)
        have f4 : (lo : Int) < (len : Int) := by omega
        clear hy hs1
        by_cases hz : cmpP y.paper y.person q.paper q.person = 0
        · have dz : (cmpP y.paper y.person q.paper q.person == 0) = true := by simp [hz]
          have hfo2 := Lib.hid (hfo.out.trans (decide_eq_true hz))
          clear hz
          go_wp2_with fail
          go_region_held3 (fun w' => w'.cell? ⟨b, off + lo * 2, none⟩ = some (.string y.paper) ∧ w'.cell? ⟨b, off + lo * 2 + 1, none⟩ = some (.string y.person) ∧ w'.cell? ⟨tb, 0, none⟩ = some (.string q.paper) ∧ w'.cell? ⟨tb, 1, none⟩ = some (.string q.person)) (first | go_keep | exact ⟨by assumption, by assumption, by assumption, by assumption⟩) (first | (go_at_call 151; refine (comparePairs_any _ _ _ _ _).mono ?_; rintro e wq ⟨rfl, hq⟩; have hp1 : All wo wq := Kept.trans (by repeat (first | exact Kept.refl _ _ | refine Kept.then_drew ?_ | refine Kept.then_drewN ?_ _ | refine Kept.then_alloc ?_ _)) hq; have a0 := hp1.cell c0 trivial; have a1 := hp1.cell c1 trivial; have a2 := hp1.cell r0 trivial; have a3 := hp1.cell r1 trivial))
          go_wp2_with fail
          go_ret2
          exact ⟨⟨(lo : Int), by rw [hfo2.out]; rfl⟩, hk1.trans (hall.trans hp1)⟩
        · have dz : (cmpP y.paper y.person q.paper q.person == 0) = false := by simp [hz]
          have hfo2 := Lib.hid (hfo.out.trans (decide_eq_false hz))
          clear hz
          go_wp2_with fail
          go_region_held3 (fun w' => w'.cell? ⟨b, off + lo * 2, none⟩ = some (.string y.paper) ∧ w'.cell? ⟨b, off + lo * 2 + 1, none⟩ = some (.string y.person) ∧ w'.cell? ⟨tb, 0, none⟩ = some (.string q.paper) ∧ w'.cell? ⟨tb, 1, none⟩ = some (.string q.person)) (first | go_keep | exact ⟨by assumption, by assumption, by assumption, by assumption⟩) (first | (go_at_call 151; refine (comparePairs_any _ _ _ _ _).mono ?_; rintro e wq ⟨rfl, hq⟩; have hp1 : All wo wq := Kept.trans (by repeat (first | exact Kept.refl _ _ | refine Kept.then_drew ?_ | refine Kept.then_drewN ?_ _ | refine Kept.then_alloc ?_ _)) hq; have a0 := hp1.cell c0 trivial; have a1 := hp1.cell c1 trivial; have a2 := hp1.cell r0 trivial; have a3 := hp1.cell r1 trivial))
          go_wp2_with fail
          go_ret2
          exact ⟨⟨(lo : Int), by rw [hfo2.out]; rfl⟩, hk1.trans (hall.trans hp1)⟩
      · have hd2 : decide ((lo : Int) < (len : Int)) = false := by simp; omega
        have hlo : lo = xs.length := by have := Hlen.out; omega
        have hfo2 := Lib.hid (foundP_no (xs := xs) (q := q) (by rw [← hlo]; exact Hb2.out))
        clear hs1 hlo
        go_wp2_with fail
        go_quiet (fail)
        go_wp2_with fail
        go_ret2
        exact ⟨⟨(lo : Int), by rw [hfo2.out]; rfl⟩, hk1.trans (hall.then_drewN _)⟩

theorem isIn_any (a : Option Addr) (len cap : Nat) (xs : List Pair2) (q : Pair2) (w : World) (hs : Sl RPair 2 (fun _ => True) w a len xs) (hl : len ≤ 1000000) (hr : xs.Pairwise ltPP) :
    Calls Tryz.prog 133 #[.slice a len cap, .agg #[.string q.paper, .string q.person]] w fun e w' => e = .returned (.bool (inP xs q.paper q.person)) ∧ All w w' := by
  have hk1 : All w (w.alloc (.cells #[.string q.paper, .string q.person] 101)) := Kept.alloc _ _ _
  have hB := Lib.hid (binSearchP_any a len cap xs q _ (hs.keep RPair.ok hk1) hl hr)
  clear hs hr
  go_enter Tryz.func133, Tryz.ntmps133
  go_wp2_with fail
  refine hB.out.mono ?_
  rintro e w' ⟨⟨n, rfl⟩, hw⟩
  go_wp2_with fail
  go_ret
  exact ⟨rfl, hk1.trans hw⟩

/-- A board in block bb, whose four slices are these. -/
def BoardAt (bb : Nat) (v0 v1 v2 v3 : Value) (w : World) : Prop := w.cell? ⟨bb, 0, none⟩ = some v0 ∧ w.cell? ⟨bb, 1, none⟩ = some v1 ∧ w.cell? ⟨bb, 2, none⟩ = some v2 ∧ w.cell? ⟨bb, 3, none⟩ = some v3
theorem BoardAt.keep {bb : Nat} {v0 v1 v2 v3 : Value} {w w' : World} (h : BoardAt bb v0 v1 v2 v3 w) (k : All w w') : BoardAt bb v0 v1 v2 v3 w' := ⟨k.cell h.1 trivial, k.cell h.2.1 trivial, k.cell h.2.2.1 trivial, k.cell h.2.2.2 trivial⟩

theorem barred_answers {bb : Nat} {v0 v2 v3 : Value} {a : Option Addr} {len cap : Nat} {w : World} {xs ys : List Pair2} (hb : BoardAt bb v0 (.slice a len cap) v2 v3 w) (hs : Sl RPair 2 (fun _ => True) w a len xs) (hl : len ≤ 1000000) (hr : xs.Pairwise ltPP) :
    AnswersP Tryz.prog 132 #[.pointer (some ⟨bb, 0, none⟩)] w (fun q => inP xs q.paper q.person) ys := by
  intro y _ wx hall
  have hk1 : All wx (wx.alloc (.cells #[.string y.paper, .string y.person] 101)) := Kept.alloc _ _ _
  have hI := Lib.hid (isIn_any a len cap xs y _ (hs.keep RPair.ok (hall.trans hk1)) hl hr)
  have hlt := lt_of_cell (hb.keep hall).1
  have c1 := (hb.keep hall).2.1
  clear hs hr hb
  show Calls Tryz.prog 132 #[.agg #[.string y.paper, .string y.person], .pointer (some ⟨bb, 0, none⟩)] wx _
  go_enter Tryz.func132, Tryz.ntmps132
  go_wp2_with fail
  refine hI.out.mono ?_
  rintro e w' ⟨rfl, hw⟩
  go_wp2_with fail
  go_ret
  exact ⟨rfl, hk1.trans hw⟩

theorem barredR_answers {bb : Nat} {v0 v2 v3 : Value} {a : Option Addr} {len cap : Nat} {w : World} {xs ys : List Pair2} (hb : BoardAt bb v0 (.slice a len cap) v2 v3 w) (hs : Sl RPair 2 (fun _ => True) w a len xs) (hl : len ≤ 1000000) :
    AnswersP Tryz.prog 129 #[.pointer (some ⟨bb, 0, none⟩)] w (fun q => inP xs q.paper q.person) ys := by
  intro y _ wx hall
  have hk1 : All wx (wx.alloc (.cells #[.string y.paper, .string y.person] 101)) := Kept.alloc _ _ _
  have hI := Lib.hid (containsP_any a len cap xs y.paper y.person _ (hs.keep RPair.ok (hall.trans hk1)) hl)
  have hlt := lt_of_cell (hb.keep hall).1
  have c1 := (hb.keep hall).2.1
  clear hs hb
  show Calls Tryz.prog 129 #[.agg #[.string y.paper, .string y.person], .pointer (some ⟨bb, 0, none⟩)] wx _
  go_enter Tryz.func129, Tryz.ntmps129
  go_wp2_with fail
  refine hI.out.mono ?_
  rintro e w' ⟨rfl, hw⟩
  go_wp2_with fail
  go_ret
  exact ⟨rfl, hk1.trans hw⟩
end Go.Proofs.YtllkemadaemjeaaGreatDoor
