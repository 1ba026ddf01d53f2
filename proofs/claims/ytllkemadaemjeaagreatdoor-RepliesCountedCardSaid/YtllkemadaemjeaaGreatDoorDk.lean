/- Replies: how they lie in memory; what CheckReplies finds; which of them count. No program in sight. -/
import Derived.Test.YtllkemadaemjeaaGreatDoorBa
import Derived.Test.YtllkemadaemjeaaGreatDoorDb
import Derived.Test.YtllkemadaemjeaaGreatDoorYa
namespace Go.Proofs.YtllkemadaemjeaaGreatDoor
open Go.RowKit

/-- A reply. -/
structure Rep3 where
  paper : ByteArray
  tm : Int
  words : ByteArray
instance : Inhabited Rep3 := ⟨⟨ByteArray.empty, 0, ByteArray.empty⟩⟩
def encRep (x : Rep3) : List Value := [.string x.paper, .int .i64 x.tm, .string x.words]
def RepSmall (x : Rep3) : Prop := x.paper.size ≤ 1000000 ∧ x.words.size ≤ 1000000
def RReply : Rel Rep3 := fun _ _ vs x => vs = encRep x ∧ RepSmall x
theorem RReply.ok : RReply.Ok := ⟨fun _ h => h, fun _ h => h, fun h => h⟩
theorem flatReply : Flat RReply encRep RepSmall 3 :=
  ⟨fun _ _ _ _ => Iff.rfl, fun _ => rfl, by decide, fun x u hu => by simp [encRep] at hu; rcases hu with rfl | rfl | rfl <;> rfl⟩
theorem Sl.atReply {F : Nat → Prop} {w : World} {a : Option Addr} {len : Nat} {xs : List Rep3} (h : Sl RReply 3 F w a len xs) {k : Nat} (hk : k < len) :
    ∃ b off x, a = some ⟨b, off, none⟩ ∧ F b ∧ w.cell? ⟨b, off + k * 3, none⟩ = some (.string x.paper) ∧ w.cell? ⟨b, off + k * 3 + 1, none⟩ = some (.int .i64 x.tm) ∧ w.cell? ⟨b, off + k * 3 + 2, none⟩ = some (.string x.words) ∧
      RepSmall x ∧ xs[k]? = some x ∧ xs = xs.take k ++ x :: xs.drop (k + 1) ∧ xs.take (k + 1) = xs.take k ++ [x] := by
  obtain ⟨b, off, vs, x, ha, hF, h1, h2, ⟨rfl, hsm⟩, h4, h5, h6⟩ := h.at hk
  exact ⟨b, off, x, ha, hF, h2 0 (by simp [encRep]), h2 1 (by simp [encRep]), h2 2 (by simp [encRep]), hsm, h4, h5, h6⟩

noncomputable def repF (x : Rep3) : Int :=
  if isKeyB x.paper = false then 5 else if x.tm < 0 ∨ 5761440 ≤ x.tm then 1 else if x.words.size = 0 then 3 else if isTextB x.words = false then 3 else if 6000 < x.words.size then 2 else 0
noncomputable def repsG : List Rep3 → Int
  | [] => 0
  | x :: l => if repF x ≠ 0 then repF x else repsG l
noncomputable def repsF (l : List Rep3) : Int := if 2000 < l.length then 2 else repsG l
theorem repsG_cons (x : Rep3) (l : List Rep3) : repsG (x :: l) = if repF x ≠ 0 then repF x else repsG l := rfl
/-- The walk over replies up to place k has found nothing. -/
def RepsAt (xs : List Rep3) (k : Nat) : Prop := repsG xs = repsG (xs.drop k)
section
variable {xs : List Rep3} {k : Nat} {x : Rep3}
theorem RepsAt.zero (xs : List Rep3) : RepsAt xs 0 := by simp [RepsAt]
theorem RepsAt.bad {e : Int} (h : RepsAt xs k) (hx : xs[k]? = some x) (hf : repF x = e) (he : e ≠ 0) : repsG xs = e := by
  rw [h, drop_at hx, repsG_cons, hf, if_pos he]
theorem RepsAt.next (h : RepsAt xs k) (hx : xs[k]? = some x) (hf : repF x = 0) : RepsAt xs (k + 1) := by
  unfold RepsAt at *
  rw [h, drop_at hx, repsG_cons, hf, if_neg (by simp)]
theorem RepsAt.ok (h : RepsAt xs k) (hk : xs.length ≤ k) : repsG xs = 0 := by
  rw [h, List.drop_of_length_le hk]; rfl
theorem repF_name (h1 : isKeyB x.paper = false) : repF x = 5 := by rw [repF, if_pos h1]
theorem repF_arg (h1 : isKeyB x.paper = true) (h2 : x.tm < 0 ∨ 5761440 ≤ x.tm) : repF x = 1 := by rw [repF, if_neg (by simp [h1]), if_pos h2]
theorem repF_none (h1 : isKeyB x.paper = true) (h2 : ¬ (x.tm < 0 ∨ 5761440 ≤ x.tm)) (h3 : x.words.size = 0) : repF x = 3 := by rw [repF, if_neg (by simp [h1]), if_neg h2, if_pos h3]
theorem repF_form (h1 : isKeyB x.paper = true) (h2 : ¬ (x.tm < 0 ∨ 5761440 ≤ x.tm)) (h3 : ¬ x.words.size = 0) (h4 : isTextB x.words = false) : repF x = 3 := by rw [repF, if_neg (by simp [h1]), if_neg h2, if_neg h3, if_pos h4]
theorem repF_large (h1 : isKeyB x.paper = true) (h2 : ¬ (x.tm < 0 ∨ 5761440 ≤ x.tm)) (h3 : ¬ x.words.size = 0) (h4 : isTextB x.words = true) (h5 : 6000 < x.words.size) : repF x = 2 := by rw [repF, if_neg (by simp [h1]), if_neg h2, if_neg h3, if_neg (by simp [h4]), if_pos h5]
theorem repF_ok (h1 : isKeyB x.paper = true) (h2 : ¬ (x.tm < 0 ∨ 5761440 ≤ x.tm)) (h3 : ¬ x.words.size = 0) (h4 : isTextB x.words = true) (h5 : ¬ 6000 < x.words.size) : repF x = 0 := by rw [repF, if_neg (by simp [h1]), if_neg h2, if_neg h3, if_neg (by simp [h4]), if_neg h5]
end
theorem repsF_large {xs : List Rep3} (h : 2000 < xs.length) : repsF xs = 2 := by rw [repsF, if_pos h]
theorem repsF_some {xs : List Rep3} (h : ¬ 2000 < xs.length) : repsF xs = repsG xs := by rw [repsF, if_neg h]

/-- Rules of replies. -/
structure RR where
  fr : Int
  til : Int
  most : Int
abbrev RR.val (r : RR) : Value := .agg #[.int .i64 r.fr, .int .i64 r.til, .int .i64 r.most]
def rrF (r : RR) : Int := if r.fr < 0 ∨ r.til < r.fr then 1 else if 5761440 < r.til then 1 else if r.most < 0 ∨ 6000 < r.most then 1 else 0

/-- Strings in order. -/
def ltB (a b : ByteArray) : Bool := Op.bytesLess a.toList b.toList
theorem ltB_irrefl (a : ByteArray) : ltB a a = false := bl_irrefl _
theorem ltB_trans {a b c : ByteArray} (h1 : ltB a b = true) (h2 : ltB b c = true) : ltB a c = true := bl_trans h1 h2
theorem ltB_total {a b : ByteArray} (h1 : ltB a b = false) (h2 : ltB b a = false) : a = b := by
  by_cases h : a.toList = b.toList
  · exact bytes_ext h
  · have := bl_total h1 h
    rw [ltB, this] at h2
    cases h2

/-- x is the greater one of two replies. -/
def betterB (x y : Rep3) : Bool := decide (y.tm < x.tm) || (decide (x.tm = y.tm) && ltB y.words x.words)
theorem betterB_irrefl (x : Rep3) : betterB x x = false := by simp [betterB, ltB_irrefl]
theorem betterB_trans {x y z : Rep3} (h1 : betterB x y = true) (h2 : betterB y z = true) : betterB x z = true := by
  simp only [betterB, Bool.or_eq_true, decide_eq_true_eq, Bool.and_eq_true] at *
  rcases h1 with h1 | ⟨h1, h1'⟩
  · rcases h2 with h2 | ⟨h2, -⟩
    · exact Or.inl (by omega)
    · exact Or.inl (by omega)
  · rcases h2 with h2 | ⟨h2, h2'⟩
    · exact Or.inl (by omega)
    · exact Or.inr ⟨by omega, ltB_trans h2' h1'⟩
theorem betterB_total {x y : Rep3} (h1 : betterB x y = false) (h2 : betterB y x = false) (hp : x.paper = y.paper) : x = y := by
  simp only [betterB, Bool.or_eq_false_iff, decide_eq_false_iff_not, Bool.and_eq_false_iff] at *
  have ht : x.tm = y.tm := by omega
  have hw : x.words = y.words := by
    refine (ltB_total (h1.2.resolve_left (by simp [ht])) (h2.2.resolve_left (by simp [ht]))).symm
  cases x; cases y; simp_all

/-- Whether a reply comes in time, and is short enough. -/
def timelyB (r : RR) (x : Rep3) : Bool := decide (r.fr ≤ x.tm) && decide (x.tm < r.til) && decide ((x.words.size : Int) ≤ r.most)
/-- The best one of the replies of a paper. -/
def bestStep (p : ByteArray) (o : Option Rep3) (x : Rep3) : Option Rep3 := if x.paper = p then (match o with | none => some x | some y => if betterB x y = true then some x else some y) else o
def bestR (ts : List Rep3) (p : ByteArray) : Option Rep3 := ts.foldl (bestStep p) none
theorem bestR_snoc (ts : List Rep3) (x : Rep3) (p : ByteArray) : bestR (ts ++ [x]) p = bestStep p (bestR ts p) x := by simp [bestR]
theorem list_snoc_ind {α : Type} {P : List α → Prop} (h0 : P []) (h1 : ∀ l x, P l → P (l ++ [x])) (l : List α) : P l := by
  have : ∀ m : List α, P m.reverse := fun m => by
    induction m with
    | nil => exact h0
    | cons x m ih => rw [List.reverse_cons]; exact h1 _ _ ih
  simpa using this l.reverse
theorem bestR_none {ts : List Rep3} {p : ByteArray} : bestR ts p = none ↔ ∀ x ∈ ts, x.paper ≠ p := by
  refine list_snoc_ind (P := fun ts => bestR ts p = none ↔ ∀ x ∈ ts, x.paper ≠ p) (by simp [bestR]) (fun l x ih => ?_) ts
  rw [bestR_snoc]
  unfold bestStep
  by_cases h : x.paper = p
  · rw [if_pos h]
    constructor
    · intro h2
      cases ho : bestR l p <;> rw [ho] at h2
      · cases h2
      · simp only at h2; split at h2 <;> cases h2
    · intro h2
      exact absurd h (h2 x (by simp))
  · rw [if_neg h, ih]
    constructor
    · intro h2 y hy
      simp only [List.mem_append, List.mem_cons, List.not_mem_nil, or_false] at hy
      rcases hy with hy | rfl
      · exact h2 y hy
      · exact h
    · intro h2 y hy
      exact h2 y (by simp [hy])
theorem bestR_some {ts : List Rep3} {p : ByteArray} {b : Rep3} (h : bestR ts p = some b) : b ∈ ts ∧ b.paper = p ∧ ∀ y ∈ ts, y.paper = p → betterB y b = false := by
  revert b
  refine list_snoc_ind (P := fun ts => ∀ {b : Rep3}, bestR ts p = some b → b ∈ ts ∧ b.paper = p ∧ ∀ y ∈ ts, y.paper = p → betterB y b = false) (fun {b} h => by simp [bestR] at h) (fun l x ih {b} h => ?_) ts
  rw [bestR_snoc] at h
  unfold bestStep at h
  by_cases hp : x.paper = p
  · rw [if_pos hp] at h
    cases ho : bestR l p with
    | none =>
      rw [ho] at h
      simp only [Option.some.injEq] at h
      subst h
      refine ⟨by simp, hp, fun y hy hyp => ?_⟩
      simp only [List.mem_append, List.mem_cons, List.not_mem_nil, or_false] at hy
      rcases hy with hy | rfl
      · exact absurd hyp (bestR_none.1 ho y hy)
      · exact betterB_irrefl _
    | some c =>
      rw [ho] at h
      obtain ⟨h1, h2, h3⟩ := ih ho
      simp only at h
      split at h
      · rename_i hb
        simp only [Option.some.injEq] at h
        subst h
        refine ⟨by simp, hp, fun y hy hyp => ?_⟩
        simp only [List.mem_append, List.mem_cons, List.not_mem_nil, or_false] at hy
        rcases hy with hy | rfl
        · cases hyx : betterB y x with
          | false => rfl
          | true =>
            have := betterB_trans hyx hb
            rw [h3 y hy hyp] at this
            cases this
        · exact betterB_irrefl _
      · rename_i hb
        simp only [Option.some.injEq] at h
        subst h
        refine ⟨by simp [h1], h2, fun y hy hyp => ?_⟩
        simp only [List.mem_append, List.mem_cons, List.not_mem_nil, or_false] at hy
        rcases hy with hy | rfl
        · exact h3 y hy hyp
        · simpa using hb
  · rw [if_neg hp] at h
    obtain ⟨h1, h2, h3⟩ := ih h
    refine ⟨by simp [h1], h2, fun y hy hyp => ?_⟩
    simp only [List.mem_append, List.mem_cons, List.not_mem_nil, or_false] at hy
    rcases hy with hy | rfl
    · exact h3 y hy hyp
    · exact absurd hyp hp
/-- The greatest one of each paper's replies, the papers rising. -/
def IsCounted (ts L : List Rep3) : Prop := L.Pairwise (fun x y => ltB x.paper y.paper = true) ∧ ∀ x, x ∈ L ↔ bestR ts x.paper = some x
theorem IsCounted.uniq {ts L M : List Rep3} (h1 : IsCounted ts L) (h2 : IsCounted ts M) : L = M :=
  rise_ext (lt := fun x y : Rep3 => ltB x.paper y.paper = true) (fun a h => by rw [ltB_irrefl] at h; cases h) (fun h1 h2 => ltB_trans h1 h2) h1.1 h2.1 (fun x => by rw [h1.2 x, h2.2 x])
/-- What no other one of its paper surpasses. -/
def topB (ts : List Rep3) (x : Rep3) : Bool := !ts.any fun y => decide (y.paper = x.paper) && betterB y x
theorem topB_iff {ts : List Rep3} {x : Rep3} (hx : x ∈ ts) : topB ts x = true ↔ bestR ts x.paper = some x := by
  have e : topB ts x = true ↔ ∀ y ∈ ts, y.paper = x.paper → betterB y x = false := by
    unfold topB
    simp only [Bool.not_eq_true', List.any_eq_false, Bool.and_eq_true, decide_eq_true_eq, not_and, Bool.not_eq_true]
  rw [e]
  constructor
  · intro h
    cases hb : bestR ts x.paper with
    | none => exact absurd rfl (bestR_none.1 hb x hx)
    | some b =>
      obtain ⟨h1, h2, h3⟩ := bestR_some hb
      rw [betterB_total (h3 x hx rfl) (h b h1 h2) h2.symm]
  · intro h
    exact (bestR_some h).2.2
end Go.Proofs.YtllkemadaemjeaaGreatDoor
