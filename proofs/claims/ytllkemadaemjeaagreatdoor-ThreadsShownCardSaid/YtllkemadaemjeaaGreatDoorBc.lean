/- Index, Contains, IndexFunc and ContainsFunc of pairs. -/
import Derived.Test.YtllkemadaemjeaaGreatDoorBa
import Derived.Test.YtllkemadaemjeaaGreatDoorSc
namespace Go.Proofs.YtllkemadaemjeaaGreatDoor
open Go.RowKit

def findP (p : Pair2 → Bool) : Nat → List Pair2 → Int
  | _, [] => -1
  | k, s :: l => if p s = true then k else findP p (k + 1) l
theorem findP_neg {p : Pair2 → Bool} : ∀ {ss : List Pair2} {k : Nat}, ss.any p = false → findP p k ss = -1
  | [], _, _ => rfl
  | s :: l, k, h => by
    simp only [List.any_cons, Bool.or_eq_false_iff] at h
    rw [findP, if_neg (by simp [h.1])]
    exact findP_neg h.2
theorem findP_nonneg {p : Pair2 → Bool} : ∀ {ss : List Pair2} {k : Nat}, ss.any p = true → 0 ≤ findP p k ss
  | s :: l, k, h => by
    rw [findP]
    by_cases e : p s = true
    · rw [if_pos e]; omega
    · rw [if_neg e]
      simp only [List.any_cons, Bool.or_eq_true] at h
      exact findP_nonneg (h.resolve_left e)
theorem findP_append {p : Pair2 → Bool} : ∀ {a b : List Pair2} {k : Nat}, a.any p = false → findP p k (a ++ b) = findP p (k + a.length) b
  | [], b, k, _ => by simp
  | s :: l, b, k, h => by
    simp only [List.any_cons, Bool.or_eq_false_iff] at h
    rw [List.cons_append, findP, if_neg (by simp [h.1]), findP_append h.2]
    simp only [List.length_cons]
    congr 1
    omega
/-- Function value g with what it has captured answers p, and leaves what was there as it was. -/
def AnswersP (P : Program) (g : FuncId) (caps : Array Value) (w : World) (p : Pair2 → Bool) (ss : List Pair2) : Prop :=
  ∀ y ∈ ss, ∀ wx, All w wx → Calls P g (#[.agg #[.string y.paper, .string y.person]] ++ caps) wx fun e w' => e = .returned (.bool (p y)) ∧ All wx w'

set_option maxHeartbeats 800000 in
theorem indexFuncP_any (g : FuncId) (caps : Array Value) (eg : ∀ args w, (callFunc g args).run Tryz.prog w = .ok (.enter g args) w) (p : Pair2 → Bool)
    (a : Option Addr) (len cap : Nat) (ss : List Pair2) (w : World) (hs : Sl RPair 2 (fun _ => True) w a len ss) (hl : len ≤ 1000000) (hp : AnswersP Tryz.prog g caps w p ss) :
    Calls Tryz.prog 166 #[.slice a len cap, .func (.func g) #[] caps] w fun e w' => e = .returned (.int .i64 (findP p 0 ss)) ∧ All w w' := by
  have hlen := hs.len
  have HP := Lib.hid hp
  clear hp
  go_enter Tryz.func166, Tryz.ntmps166
  go_wp2
  go_loopw [5, 8] (fun _ i wr => ∃ k : Nat, k ≤ len ∧ i = .int .i64 k ∧ (ss.take k).any p = false ∧ All w wr) (fun _ i _ => len - (intOf i).toNat)
  case atStart => exact ⟨0, Nat.zero_le _, rfl, by simp, Kept.refl _ _⟩
  case round =>
    obtain ⟨k, hk, rfl, hnot, hall⟩ := hrel
    by_cases hlt : k < len
    · obtain ⟨b, off, y, ha, -, hck, hck1, hy, hsplit, htake⟩ := (hs.keep RPair.ok hall).atPair hlt
      have hltake : (ss.take k).length = k := by simp; omega
      have Hsplit := Lib.hid hsplit
      have Htake := Lib.hid htake
      have Hl := Lib.hid hltake
      have Hnot := Lib.hid hnot
      have hmem := List.mem_of_getElem? hy
      clear hsplit htake hltake hlen hnot hy
      subst ha
      clear hs
      cases hpy : p y with
      | true =>
        have hfin : findP p 0 ss = k := by rw [Hsplit.out, findP_append Hnot.out, Hl.out, findP, if_pos hpy]; simp
        have Hfin := Lib.hid hfin
        clear hfin
        go_wp2_with fail
        refine (HP.out y hmem _ hall).mono ?_
        rintro e w' ⟨rfl, hw⟩
        rw [hpy]
        go_wp2_with fail
        go_ret
        exact ⟨ret_int' Hfin.out.symm, hall.trans hw⟩
      | false =>
        go_wp2_with fail
        refine (HP.out y hmem _ hall).mono ?_
        rintro e w' ⟨rfl, hw⟩
        rw [hpy]
        go_wp2_with fail
        go_roundw
        case rel => exact ⟨k + 1, by omega, by go_num, by rw [Htake.out, List.any_append, Hnot.out]; simp [hpy], hall.trans hw⟩
        case measure => simp [intOf]; omega
    · have hd : decide ((k : Int) < (len : Int)) = false := by simp; omega
      have hfin : findP p 0 ss = -1 := findP_neg (by rw [List.take_of_length_le (by omega)] at hnot; exact hnot)
      have Hfin := Lib.hid hfin
      clear hfin
      go_wp2
      go_ret
      exact ⟨ret_int' Hfin.out.symm, hall⟩

theorem containsFuncP_any (g : FuncId) (caps : Array Value) (eg : ∀ args w, (callFunc g args).run Tryz.prog w = .ok (.enter g args) w) (p : Pair2 → Bool)
    (a : Option Addr) (len cap : Nat) (ss : List Pair2) (w : World) (hs : Sl RPair 2 (fun _ => True) w a len ss) (hl : len ≤ 1000000) (hp : AnswersP Tryz.prog g caps w p ss) :
    Calls Tryz.prog 128 #[.slice a len cap, .func (.func g) #[] caps] w fun e w' => e = .returned (.bool (ss.any p)) ∧ All w w' := by
  have hI := Lib.hid (indexFuncP_any g caps eg p a len cap ss w hs hl hp)
  clear hp
  cases hx : ss.any p with
  | true =>
    have h0 := findP_nonneg (k := 0) hx
    clear hx
    go_enter Tryz.func128, Tryz.ntmps128
    go_wp2_with fail
    refine hI.out.mono ?_
    rintro e w' ⟨rfl, hw⟩
    go_wp2
    go_ret
    exact ⟨rfl, hw⟩
  | false =>
    have h0 := findP_neg (k := 0) hx
    clear hx
    go_enter Tryz.func128, Tryz.ntmps128
    go_wp2_with fail
    refine hI.out.mono ?_
    rintro e w' ⟨rfl, hw⟩
    rw [h0]
    go_wp2
    go_ret
    exact ⟨rfl, hw⟩

def isP (a b : ByteArray) : Pair2 → Bool := fun q => decide (q.paper = a ∧ q.person = b)
theorem inP_eq (l : List Pair2) (a b : ByteArray) : inP l a b = l.any (isP a b) := rfl

set_option maxHeartbeats 1600000 in
theorem indexP_any (a : Option Addr) (len cap : Nat) (ss : List Pair2) (pa pe : ByteArray) (w : World) (hs : Sl RPair 2 (fun _ => True) w a len ss) (hl : len ≤ 1000000) :
    Calls Tryz.prog 159 #[.slice a len cap, .agg #[.string pa, .string pe]] w fun e w' => e = .returned (.int .i64 (findP (isP pa pe) 0 ss)) ∧ All w w' := by
  have hlen := hs.len
  have hk1 : All w (w.alloc (.cells #[.string pa, .string pe] 101)) := Kept.alloc _ _ _
  have hblk := heap_at w (.cells #[.string pa, .string pe] 101) _ rfl
  have r0 := cell_at (i := 0) hblk rfl
  have r1 := cell_at (i := 1) hblk rfl
  have HR := Lib.hid (fun (wx : World) (k : All (w.alloc (.cells #[.string pa, .string pe] 101)) wx) => (⟨k.cell r0 trivial, k.cell r1 trivial⟩ : _ ∧ _))
  have hs1 := hs.keep RPair.ok hk1
  obtain ⟨p, hp⟩ : ∃ p, p = isP pa pe := ⟨_, rfl⟩
  have HPQ := Lib.hid (show ∀ q : Pair2, p q = decide (q.paper = pa ∧ q.person = pe) from fun q => by rw [hp]; rfl)
  rw [← hp]
  clear hblk r0 r1 hs hp
  go_enter Tryz.func159, Tryz.ntmps159
  go_wp2_with fail
  generalize w.alloc (.cells #[.string pa, .string pe] 101) = w1 at *
  go_loopw [5, 8] (fun _ i wr => ∃ k : Nat, k ≤ len ∧ i = .int .i64 k ∧ (ss.take k).any p = false ∧ All w1 wr) (fun _ i _ => len - (intOf i).toNat)
  case atStart => exact ⟨0, Nat.zero_le _, rfl, by simp, Kept.refl _ _⟩
  case round =>
    obtain ⟨k, hk, rfl, hnot, hall⟩ := hrel
    obtain ⟨wo, rfl⟩ : ∃ wo : World, wo = wr := ⟨_, rfl⟩
    by_cases hlt : k < len
    · obtain ⟨b, off, y, ha, -, hck, hck1, -, hsplit, htake⟩ := (hs1.keep RPair.ok hall).atPair hlt
      have hltake : (ss.take k).length = k := by simp; omega
      have Hsplit := Lib.hid hsplit
      have Htake := Lib.hid htake
      have Hl := Lib.hid hltake
      have Hnot := Lib.hid hnot
      obtain ⟨r0, r1⟩ := HR.out _ hall
      clear hsplit htake hltake hlen hnot
      subst ha
      clear hs1
      by_cases h1 : y.paper = pa
      · by_cases h2 : y.person = pe
        · have hpy : p y = true := by rw [HPQ.out]; simp [h1, h2]
          have hfin : findP p 0 ss = k := by rw [Hsplit.out, findP_append Hnot.out, Hl.out, findP, if_pos hpy]; simp
          have Hfin := Lib.hid hfin
          have d1 : (pa.toList == y.paper.toList) = true := by simp [h1]
          have d2 : (pe.toList == y.person.toList) = true := by simp [h2]
          clear hfin h1 h2 hpy
          go_wp2_with fail
          go_quiet (fail)
          go_wp2_with fail
          go_ret
          exact ⟨ret_int' Hfin.out.symm, (hk1.trans hall).then_drewN _⟩
        · have hpy : p y = false := by rw [HPQ.out]; simp [h2]
          have HPY := Lib.hid hpy
          have d1 : (pa.toList == y.paper.toList) = true := by simp [h1]
          have d2 : (pe.toList == y.person.toList) = false := bytes_ne (fun e => h2 e.symm)
          clear h1 h2 hpy
          go_wp2_with fail
          go_quiet (fail)
          go_wp2_with fail
          go_roundw
          case rel => exact ⟨k + 1, by omega, by go_num, by rw [Htake.out, List.any_append, Hnot.out]; simp [HPY.out], hall.then_drewN _⟩
          case measure => simp [intOf]; omega
      · have hpy : p y = false := by rw [HPQ.out]; simp [h1]
        have HPY := Lib.hid hpy
        have d1 : (pa.toList == y.paper.toList) = false := bytes_ne (fun e => h1 e.symm)
        clear h1 hpy
        go_wp2_with fail
        go_quiet (fail)
        go_wp2_with fail
        go_roundw
        case rel => exact ⟨k + 1, by omega, by go_num, by rw [Htake.out, List.any_append, Hnot.out]; simp [HPY.out], hall.then_drewN _⟩
        case measure => simp [intOf]; omega
    · have hd : decide ((k : Int) < (len : Int)) = false := by simp; omega
      have hfin : findP p 0 ss = -1 := findP_neg (by rw [List.take_of_length_le (by omega)] at hnot; exact hnot)
      have Hfin := Lib.hid hfin
      clear hfin
      go_wp2_with fail
      go_ret
      exact ⟨ret_int' Hfin.out.symm, hk1.trans hall⟩

theorem containsP_any (a : Option Addr) (len cap : Nat) (ss : List Pair2) (pa pe : ByteArray) (w : World) (hs : Sl RPair 2 (fun _ => True) w a len ss) (hl : len ≤ 1000000) :
    Calls Tryz.prog 117 #[.slice a len cap, .agg #[.string pa, .string pe]] w fun e w' => e = .returned (.bool (inP ss pa pe)) ∧ All w w' := by
  have hk1 : All w (w.alloc (.cells #[.string pa, .string pe] 101)) := Kept.alloc _ _ _
  have hI := Lib.hid (indexP_any a len cap ss pa pe _ (hs.keep RPair.ok hk1) hl)
  rw [inP_eq]
  cases hx : ss.any (isP pa pe) with
  | true =>
    have h0 := findP_nonneg (k := 0) hx
    clear hx hs
    generalize findP (isP pa pe) 0 ss = n at *
    go_enter Tryz.func117, Tryz.ntmps117
    go_wp2_with fail
    refine hI.out.mono ?_
    rintro e w' ⟨rfl, hw⟩
    go_wp2
    go_ret
    exact ⟨rfl, hk1.trans hw⟩
  | false =>
    have h0 := findP_neg (k := 0) hx
    rw [h0] at hI
    clear hx hs h0
    go_enter Tryz.func117, Tryz.ntmps117
    go_wp2_with fail
    refine hI.out.mono ?_
    rintro e w' ⟨rfl, hw⟩
    go_wp2
    go_ret
    exact ⟨rfl, hk1.trans hw⟩
end Go.Proofs.YtllkemadaemjeaaGreatDoor
