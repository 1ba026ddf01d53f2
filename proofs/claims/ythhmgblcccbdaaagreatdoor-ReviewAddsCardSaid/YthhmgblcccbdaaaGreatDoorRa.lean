/- Marks: how they lie in memory; what CheckMarks, MarksFault, scoresOf, scores and Mean compute. No program in sight. -/
import Derived.Test.YthhmgblcccbdaaaGreatDoorQc
namespace Go.Proofs.YthhmgblcccbdaaaGreatDoor
open Go.RowKit

structure Mark3 where
  paper : ByteArray
  person : ByteArray
  score : Int
def RMark : Rel Mark3 := fun _ _ vs x => vs = [.string x.paper, .string x.person, .int .i64 x.score] ∧ x.paper.size ≤ 1000000 ∧ x.person.size ≤ 1000000
theorem RMark.ok : RMark.Ok := ⟨fun _ h => h, fun _ h => h, fun h => h⟩
theorem Sl.atMark {F : Nat → Prop} {w : World} {a : Option Addr} {len : Nat} {xs : List Mark3} (h : Sl RMark 3 F w a len xs) {k : Nat} (hk : k < len) :
    ∃ b off x, a = some ⟨b, off, none⟩ ∧ F b ∧ w.cell? ⟨b, off + k * 3, none⟩ = some (.string x.paper) ∧ w.cell? ⟨b, off + k * 3 + 1, none⟩ = some (.string x.person) ∧ w.cell? ⟨b, off + k * 3 + 2, none⟩ = some (.int .i64 x.score) ∧
      x.paper.size ≤ 1000000 ∧ x.person.size ≤ 1000000 ∧ xs[k]? = some x ∧ xs = xs.take k ++ x :: xs.drop (k + 1) ∧ xs.take (k + 1) = xs.take k ++ [x] := by
  obtain ⟨b, off, vs, x, ha, hF, h1, h2, ⟨rfl, hsm1, hsm2⟩, h4, h5, h6⟩ := h.at hk
  exact ⟨b, off, x, ha, hF, by simpa using h2 0 (by simp), by simpa using h2 1 (by simp), by simpa using h2 2 (by simp), hsm1, hsm2, h4, h5, h6⟩

/-- Pairs are compared by paper, then by person. -/
def cmpP (a1 a2 b1 b2 : ByteArray) : Int := if Lib.compareBytes a1.data.toList b1.data.toList ≠ 0 then Lib.compareBytes a1.data.toList b1.data.toList else Lib.compareBytes a2.data.toList b2.data.toList
def ordM (p : Option Mark3) (m : Mark3) : Bool := match p with | none => false | some q => decide (0 ≤ cmpP q.paper q.person m.paper m.person)
noncomputable def markF (p : Option Mark3) (m : Mark3) : Int :=
  if isKeyB m.paper = false then 5 else if isKeyB m.person = false then 5 else if ordM p m = true then 7 else if m.score < 0 ∨ 10 < m.score then 1 else 0
noncomputable def marksG (p : Option Mark3) : List Mark3 → Int
  | [] => 0
  | x :: l => if markF p x ≠ 0 then markF p x else marksG (some x) l
noncomputable def marksF (l : List Mark3) : Int := if 3000 < l.length then 2 else marksG none l
theorem marksG_cons (p : Option Mark3) (x : Mark3) (l : List Mark3) : marksG p (x :: l) = if markF p x ≠ 0 then markF p x else marksG (some x) l := rfl
/-- The walk over marks up to place k has found nothing. -/
def MarkAt (xs : List Mark3) (k : Nat) : Prop := marksG none xs = marksG (xs.take k).getLast? (xs.drop k)
section
variable {xs : List Mark3} {k : Nat} {x : Mark3} {p : Option Mark3}
theorem MarkAt.zero (xs : List Mark3) : MarkAt xs 0 := by simp [MarkAt]
theorem MarkAt.bad {e : Int} (h : MarkAt xs k) (hx : xs[k]? = some x) (hf : markF (xs.take k).getLast? x = e) (he : e ≠ 0) : marksG none xs = e := by
  rw [h, drop_at hx, marksG_cons, hf, if_pos he]
theorem MarkAt.next (h : MarkAt xs k) (hx : xs[k]? = some x) (hf : markF (xs.take k).getLast? x = 0) : MarkAt xs (k + 1) := by
  unfold MarkAt at *
  rw [h, drop_at hx, marksG_cons, hf, if_neg (by simp), last_take hx]
theorem MarkAt.ok (h : MarkAt xs k) (hk : xs.length ≤ k) : marksG none xs = 0 := by
  rw [h, List.drop_of_length_le hk]; rfl
theorem markF_name (h1 : isKeyB x.paper = false) : markF p x = 5 := by rw [markF, if_pos h1]
theorem markF_name2 (h1 : isKeyB x.paper = true) (h2 : isKeyB x.person = false) : markF p x = 5 := by rw [markF, if_neg (by simp [h1]), if_pos h2]
theorem markF_order (h1 : isKeyB x.paper = true) (h2 : isKeyB x.person = true) (h3 : ordM p x = true) : markF p x = 7 := by rw [markF, if_neg (by simp [h1]), if_neg (by simp [h2]), if_pos h3]
theorem markF_arg (h1 : isKeyB x.paper = true) (h2 : isKeyB x.person = true) (h3 : ordM p x = false) (h4 : x.score < 0 ∨ 10 < x.score) : markF p x = 1 := by rw [markF, if_neg (by simp [h1]), if_neg (by simp [h2]), if_neg (by simp [h3]), if_pos h4]
theorem markF_ok (h1 : isKeyB x.paper = true) (h2 : isKeyB x.person = true) (h3 : ordM p x = false) (h4 : ¬ (x.score < 0 ∨ 10 < x.score)) : markF p x = 0 := by rw [markF, if_neg (by simp [h1]), if_neg (by simp [h2]), if_neg (by simp [h3]), if_neg h4]
theorem markF_score (h : markF p x = 0) : 0 ≤ x.score ∧ x.score ≤ 10 := by
  unfold markF at h
  split at h
  · omega
  · split at h
    · omega
    · split at h
      · omega
      · split at h
        · omega
        · omega
end
theorem marksF_large {xs : List Mark3} (h : 3000 < xs.length) : marksF xs = 2 := by rw [marksF, if_pos h]
theorem marksF_some {xs : List Mark3} (h : ¬ 3000 < xs.length) : marksF xs = marksG none xs := by rw [marksF, if_neg h]
theorem marksG_scores : ∀ {xs : List Mark3} {p : Option Mark3}, marksG p xs = 0 → ∀ x ∈ xs, 0 ≤ x.score ∧ x.score ≤ 10
  | [], _, _, x, hx => by cases hx
  | y :: l, p, h, x, hx => by
    rw [marksG_cons] at h
    by_cases hf : markF p y = 0
    · rw [if_neg (by simp [hf])] at h
      rcases List.mem_cons.1 hx with rfl | hx
      · exact markF_score hf
      · exact marksG_scores h x hx
    · rw [if_pos hf] at h
      exact absurd h hf
theorem marksF_scores {xs : List Mark3} (h : marksF xs = 0) : xs.length ≤ 3000 ∧ ∀ x ∈ xs, 0 ≤ x.score ∧ x.score ≤ 10 := by
  unfold marksF at h
  split at h
  · omega
  · exact ⟨by omega, marksG_scores h⟩

/-- The scores of a paper, as they come. -/
def scs (ms : List Mark3) (p : ByteArray) : List Int := (ms.filter fun m => decide (m.paper = p)).map (·.score)
/-- Numbers, sorted. -/
def srtI (l : List Int) : List Int := l.mergeSort fun x y => decide (x ≤ y)
/-- Numbers below N, counted out. -/
def cntsI (l : List Int) : Nat → List Int
  | 0 => []
  | n + 1 => cntsI l n ++ l.filter fun x => decide (x = (n : Int))
theorem scs_succ {ms : List Mark3} {k : Nat} {m : Mark3} (h : ms.take (k + 1) = ms.take k ++ [m]) (p : ByteArray) : scs (ms.take (k + 1)) p = if m.paper = p then scs (ms.take k) p ++ [m.score] else scs (ms.take k) p := by
  rw [h, scs, List.filter_append]
  by_cases hp : m.paper = p
  · simp [hp, scs]
  · simp [hp, scs]
theorem scs_len (ms : List Mark3) (p : ByteArray) : (scs ms p).length ≤ ms.length := by
  simp only [scs, List.length_map]
  exact List.length_filter_le _ _
theorem scs_mem {ms : List Mark3} {p : ByteArray} {x : Int} (h : x ∈ scs ms p) : ∃ m ∈ ms, m.score = x := by
  obtain ⟨m, hm, rfl⟩ := List.mem_map.1 h
  exact ⟨m, (List.mem_filter.1 hm).1, rfl⟩
theorem srtI_len (l : List Int) : (srtI l).length = l.length := by simp [srtI]
theorem srtI_mem {l : List Int} {x : Int} : x ∈ srtI l ↔ x ∈ l := by simp [srtI]
theorem srtI_perm (l : List Int) : (srtI l).Perm l := List.mergeSort_perm _ _
theorem srtI_nil {l : List Int} : srtI l = [] ↔ l = [] := by
  constructor
  · intro h
    have := srtI_len l
    rw [h] at this
    exact List.eq_nil_of_length_eq_zero this.symm
  · rintro rfl; simp [srtI]
theorem srtI_sorted (l : List Int) : (srtI l).Pairwise fun x y => x ≤ y := by
  have h := List.pairwise_mergeSort (le := fun x y : Int => decide (x ≤ y)) (by intro a b c h1 h2; simp at *; omega) (by intro a b; simp; omega) l
  exact h.imp (by intro a b h; simpa using h)
/-- Two sorted lists of the same numbers are one. -/
theorem sorted_eq : ∀ {l k : List Int}, l.Perm k → l.Pairwise (fun x y => x ≤ y) → k.Pairwise (fun x y => x ≤ y) → l = k
  | [], k, hp, _, _ => (List.nil_perm.1 hp).symm
  | x :: l, [], hp, _, _ => absurd hp.length_eq (by simp)
  | x :: l, y :: k, hp, h1, h2 => by
    obtain ⟨a1, a2⟩ := List.pairwise_cons.1 h1
    obtain ⟨b1, b2⟩ := List.pairwise_cons.1 h2
    have e : x = y := by
      have hx : x ∈ y :: k := hp.mem_iff.1 (by simp)
      have hy : y ∈ x :: l := hp.mem_iff.2 (by simp)
      rcases List.mem_cons.1 hx with h | h
      · exact h
      · rcases List.mem_cons.1 hy with h' | h'
        · exact h'.symm
        · have := b1 x h
          have := a1 y h'
          omega
    subst e
    rw [sorted_eq (List.Perm.cons_inv hp) a2 b2]
theorem cntsI_mem {l : List Int} : ∀ {n : Nat} {x : Int}, x ∈ cntsI l n → 0 ≤ x ∧ x < n ∧ x ∈ l
  | 0, x, h => by simp [cntsI] at h
  | n + 1, x, h => by
    rcases List.mem_append.1 h with h | h
    · have := cntsI_mem h
      exact ⟨this.1, by omega, this.2.2⟩
    · have := List.mem_filter.1 h
      have e : x = n := by simpa using this.2
      exact ⟨by omega, by omega, this.1⟩
theorem cntsI_sorted (l : List Int) : ∀ n : Nat, (cntsI l n).Pairwise fun x y => x ≤ y
  | 0 => List.Pairwise.nil
  | n + 1 => by
    rw [cntsI, List.pairwise_append]
    refine ⟨cntsI_sorted l n, ?_, fun a ha b hb => ?_⟩
    · refine List.Pairwise.imp_of_mem (R := fun _ _ => True) ?_ ?_
      · intro a b ha hb _
        have h1 : a = n := by simpa using (List.mem_filter.1 ha).2
        have h2 : b = n := by simpa using (List.mem_filter.1 hb).2
        omega
      · exact List.pairwise_of_forall (fun _ _ => trivial)
    · have h1 := cntsI_mem ha
      have h2 : b = n := by simpa using (List.mem_filter.1 hb).2
      omega
theorem cntsI_perm (l : List Int) : ∀ n : Nat, (cntsI l n).Perm (l.filter fun x => decide (0 ≤ x ∧ x < n))
  | 0 => by
    have : l.filter (fun x => decide (0 ≤ x ∧ x < ((0 : Nat) : Int))) = [] := by
      rw [List.filter_eq_nil_iff]
      intro a _
      simp
    rw [this]
    exact List.Perm.nil
  | n + 1 => by
    have h0 := cntsI_perm l n
    have h1 := (List.filter_append_perm (fun x : Int => decide (x < n)) (l.filter fun x => decide (0 ≤ x ∧ x < ((n + 1 : Nat) : Int)))).symm
    rw [List.filter_filter, List.filter_filter] at h1
    have e1 : l.filter (fun x => decide (x < (n : Int)) && decide (0 ≤ x ∧ x < ((n + 1 : Nat) : Int))) = l.filter fun x => decide (0 ≤ x ∧ x < (n : Int)) := by
      apply List.filter_congr
      intro x _
      rw [Bool.eq_iff_iff]
      simp
      omega
    have e2 : l.filter (fun x => !decide (x < (n : Int)) && decide (0 ≤ x ∧ x < ((n + 1 : Nat) : Int))) = l.filter fun x => decide (x = (n : Int)) := by
      apply List.filter_congr
      intro x _
      rw [Bool.eq_iff_iff]
      simp
      omega
    rw [e1, e2] at h1
    exact (h0.append_right _).trans h1.symm
/-- Numbers from 0 to 10, sorted, are numbers counted out. -/
theorem srtI_cnts {l : List Int} (h : ∀ x ∈ l, 0 ≤ x ∧ x ≤ 10) : srtI l = cntsI l 11 := by
  refine sorted_eq ((srtI_perm l).trans ?_) (srtI_sorted l) (cntsI_sorted l 11)
  have h1 := cntsI_perm l 11
  have e : l.filter (fun x => decide (0 ≤ x ∧ x < ((11 : Nat) : Int))) = l := by
    rw [List.filter_eq_self]
    intro x hx
    have := h x hx
    simp
    omega
  rw [e] at h1
  exact h1.symm

/-- The sum of numbers. -/
def sumI : List Int → Int
  | [] => 0
  | x :: l => x + sumI l
theorem sumI_append (a b : List Int) : sumI (a ++ b) = sumI a + sumI b := by
  induction a with
  | nil => simp [sumI]
  | cons x a ih => simp only [List.cons_append, sumI, ih]; omega
theorem sumI_succ {l : List Int} {k : Nat} {x : Int} (h : l.take (k + 1) = l.take k ++ [x]) : sumI (l.take (k + 1)) = sumI (l.take k) + x := by
  rw [h, sumI_append]; simp [sumI]
theorem sumI_bound {l : List Int} {M : Int} (h : ∀ x ∈ l, 0 ≤ x ∧ x ≤ M) : 0 ≤ sumI l ∧ sumI l ≤ M * l.length := by
  induction l with
  | nil => simp [sumI]
  | cons x l ih =>
    have h1 := ih (fun y hy => h y (List.mem_cons_of_mem _ hy))
    have h2 := h x (by simp)
    simp only [sumI, List.length_cons]
    have : M * ((l.length + 1 : Nat) : Int) = M * l.length + M := by
      rw [Int.natCast_add, Int.mul_add]; simp
    rw [this]
    omega

/-- A fraction in lowest terms. -/
def lowNum (n d : Int) : Int := n.tdiv (Int.gcd n d)
def lowDen (n d : Int) : Int := d.tdiv (Int.gcd n d)
theorem gcd_tmod (a b : Int) : Int.gcd b (a.tmod b) = Int.gcd a b := by
  rw [Int.gcd_comm a b]
  apply Nat.dvd_antisymm
  · apply Int.dvd_gcd
    · exact Int.gcd_dvd_left _ _
    · have h1 : a = b * a.tdiv b + a.tmod b := (Int.mul_tdiv_add_tmod a b).symm
      have h2 : ((Int.gcd b (a.tmod b) : Nat) : Int) ∣ b * a.tdiv b + a.tmod b := Int.dvd_add (Int.dvd_mul_of_dvd_left (Int.gcd_dvd_left _ _)) (Int.gcd_dvd_right _ _)
      rw [← h1] at h2
      exact h2
  · apply Int.dvd_gcd
    · exact Int.gcd_dvd_left _ _
    · have h1 : a.tmod b = a - b * a.tdiv b := by have := Int.mul_tdiv_add_tmod a b; omega
      rw [h1]
      exact Int.dvd_sub (Int.gcd_dvd_right _ _) (Int.dvd_mul_of_dvd_left (Int.gcd_dvd_left _ _))
end Go.Proofs.YthhmgblcccbdaaaGreatDoor
