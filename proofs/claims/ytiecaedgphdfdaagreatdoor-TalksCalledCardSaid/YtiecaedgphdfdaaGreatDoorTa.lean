/- Comparing papers: the rules, what a paper has in a criterion, who is better. No program in sight. -/
import Derived.Test.YtiecaedgphdfdaaGreatDoorRa
namespace Go.Proofs.YtiecaedgphdfdaaGreatDoor
open Go.RowKit

/-- Criteria behind others: what is wrong with them. -/
def rulG : List Int → List Int → Int
  | _, [] => 0
  | pre, c :: l => if c < 1 ∨ 5 < c then 4 else if c ∈ pre then 6 else rulG (pre ++ [c]) l
/-- What is wrong with rules. -/
def rulF (cs : List Int) (floor : Int) : Int := if cs = [] then 3 else if rulG [] cs ≠ 0 then rulG [] cs else if floor < 0 ∨ 100 < floor then 1 else 0
def RulAt (cs : List Int) (k : Nat) : Prop := rulG [] cs = rulG (cs.take k) (cs.drop k)
section
variable {cs : List Int} {k : Nat} {c fl : Int}
theorem RulAt.zero (cs : List Int) : RulAt cs 0 := by simp [RulAt]
theorem RulAt.kind (h : RulAt cs k) (hx : cs[k]? = some c) (hc : c < 1 ∨ 5 < c) : rulG [] cs = 4 := by
  rw [h, drop_at hx, rulG, if_pos hc]
theorem RulAt.twice (h : RulAt cs k) (hx : cs[k]? = some c) (hc : ¬ (c < 1 ∨ 5 < c)) (hm : c ∈ cs.take k) : rulG [] cs = 6 := by
  rw [h, drop_at hx, rulG, if_neg hc, if_pos hm]
theorem RulAt.next (h : RulAt cs k) (hx : cs[k]? = some c) (ht : cs.take (k + 1) = cs.take k ++ [c]) (hc : ¬ (c < 1 ∨ 5 < c)) (hm : ¬ c ∈ cs.take k) : RulAt cs (k + 1) := by
  unfold RulAt at *
  rw [h, drop_at hx, rulG, if_neg hc, if_neg hm, ht]
theorem RulAt.done (h : RulAt cs k) (hk : cs.length ≤ k) : rulG [] cs = 0 := by
  rw [h, List.drop_of_length_le hk]; rfl
theorem rulF_nil : rulF [] fl = 3 := by simp [rulF]
theorem rulF_bad (h : cs ≠ []) (h2 : rulG [] cs = c) (h3 : c ≠ 0) : rulF cs fl = c := by rw [rulF, if_neg h, h2, if_pos h3]
theorem rulF_floor (h : cs ≠ []) (h2 : rulG [] cs = 0) (h3 : fl < 0 ∨ 100 < fl) : rulF cs fl = 1 := by rw [rulF, if_neg h, h2, if_neg (by simp), if_pos h3]
theorem rulF_ok (h : cs ≠ []) (h2 : rulG [] cs = 0) (h3 : ¬ (fl < 0 ∨ 100 < fl)) : rulF cs fl = 0 := by rw [rulF, if_neg h, h2, if_neg (by simp), if_neg h3]
theorem rulG_in : ∀ {cs pre : List Int}, rulG pre cs = 0 → ∀ x ∈ cs, 1 ≤ x ∧ x ≤ 5
  | [], _, _, x, hx => by cases hx
  | y :: l, pre, h, x, hx => by
    rw [rulG] at h
    by_cases h1 : y < 1 ∨ 5 < y
    · rw [if_pos h1] at h; omega
    · rw [if_neg h1] at h
      by_cases h2 : y ∈ pre
      · rw [if_pos h2] at h; omega
      · rw [if_neg h2] at h
        rcases List.mem_cons.1 hx with rfl | hx
        · omega
        · exact rulG_in h x hx
theorem rulF_in (h : rulF cs fl = 0) : (∀ x ∈ cs, 1 ≤ x ∧ x ≤ 5) ∧ 0 ≤ fl ∧ fl ≤ 100 := by
  unfold rulF at h
  split at h
  · omega
  · split at h
    · omega
    · rename_i h2
      split at h
      · omega
      · exact ⟨rulG_in (by simpa using h2), by omega, by omega⟩
end

/-- What a paper with these scores has in a criterion, as the reference says it. -/
def critN (c : Int) (ss : List Int) : Int := if c = 4 then ss.length else if ss = [] then -1 else if c = 1 then sumI ss else if c = 2 then ss.getD 0 0 else if c = 3 then ss.getD (ss.length - 1) 0 else ss.getD ((ss.length - 1) / 2) 0
def critD (c : Int) (ss : List Int) : Int := if c = 4 then 1 else if ss = [] then 1 else if c = 1 then ss.length else 1
/-- And as the program says it. -/
def valN (c : Int) (ss : List Int) : Int := if c = 1 ∧ ss ≠ [] then lowNum (sumI ss) ss.length else critN c ss
def valD (c : Int) (ss : List Int) : Int := if c = 1 ∧ ss ≠ [] then lowDen (sumI ss) ss.length else critD c ss
section
variable {c : Int} {ss : List Int}
theorem crit_many (ss : List Int) : critN 4 ss = ss.length ∧ critD 4 ss = 1 := by simp [critN, critD]
theorem crit_none (h : c ≠ 4) : critN c [] = -1 ∧ critD c [] = 1 := by simp [critN, critD, h]
theorem crit_mean (h : ss ≠ []) : critN 1 ss = sumI ss ∧ critD 1 ss = ss.length := by simp [critN, critD, h]
theorem crit_least (h : ss ≠ []) : critN 2 ss = ss.getD 0 0 ∧ critD 2 ss = 1 := by simp [critN, critD, h]
theorem crit_greatest (h : ss ≠ []) : critN 3 ss = ss.getD (ss.length - 1) 0 ∧ critD 3 ss = 1 := by simp [critN, critD, h]
theorem crit_middle (h1 : c ≠ 1) (h2 : c ≠ 2) (h3 : c ≠ 3) (h4 : c ≠ 4) (h : ss ≠ []) : critN c ss = ss.getD ((ss.length - 1) / 2) 0 ∧ critD c ss = 1 := by simp [critN, critD, h, h1, h2, h3, h4]
theorem val_crit (h : c ≠ 1 ∨ ss = []) : valN c ss = critN c ss ∧ valD c ss = critD c ss := by
  have : ¬ (c = 1 ∧ ss ≠ []) := fun ⟨a, b⟩ => h.elim (fun h => h a) (fun h => b h)
  exact ⟨if_neg this, if_neg this⟩
theorem val_mean (h : ss ≠ []) : valN 1 ss = lowNum (sumI ss) ss.length ∧ valD 1 ss = lowDen (sumI ss) ss.length := ⟨if_pos ⟨rfl, h⟩, if_pos ⟨rfl, h⟩⟩
theorem getD_bound {M : Int} (h : ∀ x ∈ ss, 0 ≤ x ∧ x ≤ M) (hM : 0 ≤ M) (i : Nat) : 0 ≤ ss.getD i 0 ∧ ss.getD i 0 ≤ M := by
  rw [List.getD_eq_getElem?_getD]
  by_cases hi : i < ss.length
  · rw [List.getElem?_eq_getElem hi]; exact h _ (List.getElem_mem hi)
  · rw [List.getElem?_eq_none (by omega)]; exact ⟨Int.le_refl _, hM⟩
theorem crit_bound (h : ∀ x ∈ ss, 0 ≤ x ∧ x ≤ 10) (hl : ss.length ≤ 3000) : -1 ≤ critN c ss ∧ critN c ss ≤ 30000 ∧ 1 ≤ critD c ss ∧ critD c ss ≤ 3000 := by
  have hb := sumI_bound h
  have g := fun i => getD_bound h (by decide) i
  have g0 := g 0
  have g1 := g (ss.length - 1)
  have g2 := g ((ss.length - 1) / 2)
  unfold critN critD
  by_cases h4 : c = 4
  · simp only [h4, if_true]; omega
  · simp only [h4, if_false]
    by_cases hn : ss = []
    · simp only [hn, if_true]; omega
    · have : 0 < ss.length := List.length_pos_iff.2 hn
      simp only [hn, if_false]
      by_cases h1 : c = 1
      · simp only [h1, if_true]; omega
      · simp only [h1, if_false]
        by_cases h2 : c = 2
        · simp only [h2, if_true]; omega
        · simp only [h2, if_false]
          by_cases h3 : c = 3
          · simp only [h3, if_true]; omega
          · simp only [h3, if_false]; omega
/-- The program's fraction is the reference's in lowest terms. -/
theorem val_scale (h : ∀ x ∈ ss, 0 ≤ x ∧ x ≤ 10) : ∃ g : Int, 1 ≤ g ∧ critN c ss = valN c ss * g ∧ critD c ss = valD c ss * g := by
  by_cases hc : c = 1 ∧ ss ≠ []
  · obtain ⟨rfl, hn⟩ := hc
    rw [(crit_mean hn).1, (crit_mean hn).2, (val_mean hn).1, (val_mean hn).2]
    have hp : 0 < ss.length := List.length_pos_iff.2 hn
    have hb := sumI_bound h
    have hg : 0 < Int.gcd (sumI ss) ss.length := Int.gcd_pos_of_ne_zero_right _ (by omega)
    refine ⟨Int.gcd (sumI ss) ss.length, by omega, ?_, ?_⟩
    · rw [lowNum, Int.tdiv_mul_cancel (Int.gcd_dvd_left _ _)]
    · rw [lowDen, Int.tdiv_mul_cancel (Int.gcd_dvd_right _ _)]
  · have := val_crit (c := c) (ss := ss) (by
      by_cases h1 : c = 1
      · right
        by_cases h2 : ss = []
        · exact h2
        · exact absurd ⟨h1, h2⟩ hc
      · exact Or.inl h1)
    exact ⟨1, by omega, by rw [this.1]; omega, by rw [this.2]; omega⟩
/-- The program's fraction is small. -/
theorem val_bound (h : ∀ x ∈ ss, 0 ≤ x ∧ x ≤ 10) (hl : ss.length ≤ 3000) : -1 ≤ valN c ss ∧ valN c ss ≤ 30000 ∧ 1 ≤ valD c ss ∧ valD c ss ≤ 3000 := by
  obtain ⟨b1, b2, b3, b4⟩ := crit_bound (c := c) h hl
  obtain ⟨g, hg, h1, h2⟩ := val_scale (c := c) h
  have hd : 0 < valD c ss := by
    rcases Int.lt_or_le 0 (valD c ss) with hd | hd
    · exact hd
    · have := Int.mul_nonneg (show 0 ≤ - valD c ss by omega) (show 0 ≤ g by omega)
      rw [Int.neg_mul] at this
      omega
  have e1 : valD c ss * 1 ≤ valD c ss * g := Int.mul_le_mul_of_nonneg_left hg (by omega)
  have hnn : -1 ≤ valN c ss ∧ valN c ss ≤ 30000 := by
    rcases Int.lt_or_le (valN c ss) 0 with hn | hn
    · have := Int.mul_le_mul_of_nonneg_left hg (show 0 ≤ - valN c ss by omega)
      rw [Int.neg_mul, Int.neg_mul] at this
      omega
    · have := Int.mul_le_mul_of_nonneg_left hg (show 0 ≤ valN c ss by omega)
      omega
  exact ⟨hnn.1, hnn.2, by omega, by omega⟩
end

/-- The sign of a difference. -/
def cmpI (a b : Int) : Int := if a < b then -1 else if b < a then 1 else 0
theorem cmpI_lt {a b : Int} (h : a < b) : cmpI a b = -1 := if_pos h
theorem cmpI_gt {a b : Int} (h : b < a) : cmpI a b = 1 := by rw [cmpI, if_neg (by omega), if_pos h]
theorem cmpI_eq {a b : Int} (h : a = b) : cmpI a b = 0 := by rw [cmpI, if_neg (by omega), if_neg (by omega)]
theorem cmpI_scale {a b g : Int} (hg : 1 ≤ g) : cmpI (a * g) (b * g) = cmpI a b := by
  rcases Int.lt_trichotomy a b with h | h | h
  · rw [cmpI_lt h, cmpI_lt (Int.mul_lt_mul_of_pos_right h (by omega))]
  · rw [h, cmpI_eq rfl, cmpI_eq rfl]
  · rw [cmpI_gt h, cmpI_gt (Int.mul_lt_mul_of_pos_right h (by omega))]
/-- Who is better by criterion c: x and y are scores. -/
def betR (c : Int) (x y : List Int) : Int := cmpI (critN c y * critD c x) (critN c x * critD c y)
theorem bet_val {c : Int} {x y : List Int} (hx : ∀ z ∈ x, 0 ≤ z ∧ z ≤ 10) (hy : ∀ z ∈ y, 0 ≤ z ∧ z ≤ 10) : cmpI (valN c y * valD c x) (valN c x * valD c y) = betR c x y := by
  obtain ⟨g, hg, h1, h2⟩ := val_scale (c := c) hx
  obtain ⟨k, hk, k1, k2⟩ := val_scale (c := c) hy
  have hgk : 1 ≤ g * k := by
    have := Int.mul_le_mul hg hk (by omega) (by omega)
    omega
  rw [betR, k1, k2, h1, h2, ← cmpI_scale (g := g * k) hgk]
  congr 1
  · rw [Int.mul_assoc (valN c y), Int.mul_assoc (valN c y), Int.mul_left_comm k, Int.mul_comm k g]
  · rw [Int.mul_assoc (valN c x), Int.mul_assoc (valN c x), Int.mul_left_comm g]
/-- Who of two papers is better. -/
def ordR : List Int → List Int → List Int → ByteArray → ByteArray → Int
  | [], _, _, a, b => Lib.compareBytes a.data.toList b.data.toList
  | c :: l, x, y, a, b => if betR c x y ≠ 0 then betR c x y else ordR l x y a b
section
variable {cs x y : List Int} {a b : ByteArray} {k : Nat} {c : Int}
def OrdAt (cs x y : List Int) (a b : ByteArray) (k : Nat) : Prop := ordR cs x y a b = ordR (cs.drop k) x y a b
theorem OrdAt.zero (cs x y : List Int) (a b : ByteArray) : OrdAt cs x y a b 0 := by simp [OrdAt]
theorem OrdAt.hit (h : OrdAt cs x y a b k) (hx : cs[k]? = some c) (hb : betR c x y ≠ 0) : ordR cs x y a b = betR c x y := by
  rw [h, drop_at hx, ordR, if_pos hb]
theorem OrdAt.next (h : OrdAt cs x y a b k) (hx : cs[k]? = some c) (hb : betR c x y = 0) : OrdAt cs x y a b (k + 1) := by
  unfold OrdAt at *
  rw [h, drop_at hx, ordR, if_neg (by simp [hb])]
theorem OrdAt.done (h : OrdAt cs x y a b k) (hk : cs.length ≤ k) : ordR cs x y a b = Lib.compareBytes a.data.toList b.data.toList := by
  rw [h, List.drop_of_length_le hk]; rfl
end
theorem mul_bd {a b : Int} (h1 : -1 ≤ a) (h2 : a ≤ 30000) (h3 : 1 ≤ b) (h4 : b ≤ 3000) : -3000 ≤ a * b ∧ a * b ≤ 90000000 := by
  rcases Int.lt_or_le a 0 with h | h
  · have e : a = -1 := by omega
    subst e
    omega
  · have h5 := Int.mul_nonneg h (show 0 ≤ b by omega)
    have h6 := Int.mul_le_mul h2 h4 (by omega) (by omega)
    omega
theorem cmpI_sub (a b : Int) : cmpI (a - b) 0 = cmpI a b := by
  rcases Int.lt_trichotomy a b with h | h | h
  · rw [cmpI_lt h, cmpI_lt (by omega)]
  · rw [cmpI_eq h, cmpI_eq (by omega)]
  · rw [cmpI_gt h, cmpI_gt (by omega)]
theorem cmpI_zero {a b : Int} : cmpI a b = 0 ↔ a = b := by
  rcases Int.lt_trichotomy a b with h | h | h
  · rw [cmpI_lt h]; omega
  · rw [cmpI_eq h]; omega
  · rw [cmpI_gt h]; omega
/-- What Order answers. -/
noncomputable def ordE (cs : List Int) (fl : Int) (xs : List Mark3) (a b : ByteArray) : Int := if rulF cs fl ≠ 0 then rulF cs fl else if marksF xs ≠ 0 then marksF xs else if isKeyB a = false then 5 else if isKeyB b = false then 5 else 0
end Go.Proofs.YtiecaedgphdfdaaGreatDoor
