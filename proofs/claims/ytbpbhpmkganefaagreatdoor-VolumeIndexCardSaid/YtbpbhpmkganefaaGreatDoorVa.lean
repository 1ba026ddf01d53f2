/- Strings in order. No program in sight. -/
import Derived.Test.YtbpbhpmkganefaaGreatDoorGe
namespace Go.Proofs.YtbpbhpmkganefaaGreatDoor
open Go.RowKit

theorem bl_irrefl : ∀ a : List UInt8, Op.bytesLess a a = false
  | [] => rfl
  | x :: l => by simp [Op.bytesLess, bl_irrefl l]
theorem bl_trans : ∀ {a b c : List UInt8}, Op.bytesLess a b = true → Op.bytesLess b c = true → Op.bytesLess a c = true
  | _, [], _, h, _ => by simp [Op.bytesLess] at h
  | _, _ :: _, [], _, h => by simp [Op.bytesLess] at h
  | [], _ :: _, _ :: _, _, _ => rfl
  | x :: a, y :: b, z :: c, h1, h2 => by
    simp only [Op.bytesLess, Bool.or_eq_true, decide_eq_true_eq, Bool.and_eq_true, beq_iff_eq] at *
    rcases h1 with h1 | ⟨rfl, h1⟩
    · rcases h2 with h2 | ⟨rfl, h2⟩
      · exact Or.inl (by rw [UInt8.lt_iff_toNat_lt] at *; omega)
      · exact Or.inl h1
    · rcases h2 with h2 | ⟨rfl, h2⟩
      · exact Or.inl h2
      · exact Or.inr ⟨rfl, bl_trans h1 h2⟩
theorem bl_total : ∀ {a b : List UInt8}, Op.bytesLess a b = false → a ≠ b → Op.bytesLess b a = true
  | [], [], _, h => absurd rfl h
  | [], _ :: _, h, _ => by simp [Op.bytesLess] at h
  | _ :: _, [], _, _ => rfl
  | x :: a, y :: b, h1, h2 => by
    simp only [Op.bytesLess, Bool.or_eq_false_iff, decide_eq_false_iff_not, Bool.and_eq_false_iff, beq_eq_false_iff_ne, Bool.or_eq_true, decide_eq_true_eq, Bool.and_eq_true, beq_iff_eq] at *
    by_cases e : x = y
    · subst e
      refine Or.inr ⟨rfl, bl_total (h1.2.resolve_left (by simp)) (fun e => h2 (by rw [e]))⟩
    · refine Or.inl ?_
      have := h1.1
      have hne : x.toNat ≠ y.toNat := fun e2 => e (UInt8.toNat_inj.1 e2)
      rw [UInt8.lt_iff_toNat_lt] at *
      omega
theorem cmp_neg : ∀ (a b : List UInt8), Lib.compareBytes a b < 0 ↔ Op.bytesLess a b = true
  | [], [] => by simp [Lib.compareBytes, Op.bytesLess]
  | [], _ :: _ => by simp [Lib.compareBytes, Op.bytesLess]
  | _ :: _, [] => by simp [Lib.compareBytes, Op.bytesLess]
  | x :: a, y :: b => by
    simp only [Lib.compareBytes, Op.bytesLess, Bool.or_eq_true, decide_eq_true_eq, Bool.and_eq_true, beq_iff_eq]
    by_cases h : x < y
    · simp [h]
    · by_cases h2 : y < x
      · have hne : x ≠ y := fun e => by subst e; exact h h2
        simp [h, h2, hne]
      · have he : x = y := UInt8.toNat_inj.1 (by rw [UInt8.lt_iff_toNat_lt] at *; omega)
        subst he
        simp [h, cmp_neg a b]
theorem cmp_zero : ∀ (a b : List UInt8), Lib.compareBytes a b = 0 ↔ a = b
  | [], [] => by simp [Lib.compareBytes]
  | [], _ :: _ => by simp [Lib.compareBytes]
  | _ :: _, [] => by simp [Lib.compareBytes]
  | x :: a, y :: b => by
    simp only [Lib.compareBytes]
    by_cases h : x < y
    · have hne : x ≠ y := fun e => by subst e; rw [UInt8.lt_iff_toNat_lt] at h; omega
      simp [h, hne]
    · by_cases h2 : y < x
      · have hne : x ≠ y := fun e => by subst e; exact h h2
        simp [h, h2, hne]
      · have he : x = y := UInt8.toNat_inj.1 (by rw [UInt8.lt_iff_toNat_lt] at *; omega)
        subst he
        simp [h, cmp_zero a b]
theorem tl_data (s : ByteArray) : s.toList = s.data.toList := Go.ByteArray.toList_eq s
theorem leB_false {a b : ByteArray} (h : leB a b = false) : Op.bytesLess b.toList a.toList = true := by
  unfold leB at h
  rw [Bool.or_eq_false_iff] at h
  exact bl_total h.1 (by simpa using h.2)
end Go.Proofs.YtbpbhpmkganefaaGreatDoor

/- Strings in order; finals that rise; where a final is. No program in sight. -/
namespace Go.Proofs.YtbpbhpmkganefaaGreatDoor
open Go.RowKit

/-- Papers rise. -/
def Rises (xs : List Fin4) : Prop := xs.Pairwise fun x y => Op.bytesLess x.paper.toList y.paper.toList = true
theorem finF_ord {p : Option ByteArray} {x : Fin4} (h : finF p x = 0) : ordB p x.paper = false := by
  unfold finF at h
  split at h
  · omega
  · split at h
    · omega
    · rename_i h1; simpa using h1
theorem finF_pages {p : Option ByteArray} {x : Fin4} (h : finF p x = 0) : 1 ≤ x.pages ∧ x.pages ≤ 100 := by
  unfold finF at h
  split at h
  · omega
  · split at h
    · omega
    · split at h
      · omega
      · split at h
        · omega
        · omega
theorem finsF_rises : ∀ {xs : List Fin4} {p : Option ByteArray}, finsF p xs = 0 → Rises xs ∧ (∀ q, p = some q → ∀ x ∈ xs, Op.bytesLess q.toList x.paper.toList = true) ∧ ∀ x ∈ xs, 1 ≤ x.pages ∧ x.pages ≤ 100
  | [], _, _ => ⟨List.Pairwise.nil, by simp, by simp⟩
  | x :: l, p, h => by
    rw [finsF_cons] at h
    by_cases hf : finF p x = 0
    · rw [if_neg (by simp [hf])] at h
      obtain ⟨h1, h2, h3⟩ := finsF_rises h
      have hx : ∀ q, p = some q → Op.bytesLess q.toList x.paper.toList = true := fun q hq => by
        have := finF_ord hf
        subst hq
        exact leB_false this
      refine ⟨List.pairwise_cons.2 ⟨fun y hy => h2 _ rfl y hy, h1⟩, fun q hq y hy => ?_, fun y hy => ?_⟩
      · rcases List.mem_cons.1 hy with rfl | hy
        · exact hx q hq
        · exact bl_trans (hx q hq) (h2 _ rfl y hy)
      · rcases List.mem_cons.1 hy with rfl | hy
        · exact finF_pages hf
        · exact h3 y hy
    · rw [if_pos hf] at h
      exact absurd h hf
theorem finalsF_rises {xs : List Fin4} (h : finalsF xs = 0) : Rises xs ∧ ∀ x ∈ xs, 1 ≤ x.pages ∧ x.pages ≤ 100 := by
  unfold finalsF at h
  split at h
  · omega
  · exact ⟨(finsF_rises h).1, (finsF_rises h).2.2⟩

def isPaper (p : ByteArray) (f : Fin4) : Bool := decide (f.paper = p)
/-- The final of a paper. -/
def finOf (xs : List Fin4) (p : ByteArray) : Option Fin4 := xs.find? (isPaper p)
/-- How many papers are before p. -/
def cntOf (xs : List Fin4) (p : ByteArray) : Nat := xs.countP fun f => Op.bytesLess f.paper.toList p.toList

theorem cnt_boundary : ∀ {xs : List Fin4} {p : ByteArray} {i : Nat}, i ≤ xs.length → (∀ (t : Nat) (f : Fin4), xs[t]? = some f → t < i → Op.bytesLess f.paper.toList p.toList = true) → (∀ (t : Nat) (f : Fin4), xs[t]? = some f → i ≤ t → Op.bytesLess f.paper.toList p.toList = false) → cntOf xs p = i
  | [], p, i, hi, _, _ => by simp at hi; simp [cntOf, hi]
  | a :: r, p, 0, _, _, h2 => by
    unfold cntOf
    rw [List.countP_eq_zero]
    intro x hx
    obtain ⟨t, ht, rfl⟩ := List.getElem_of_mem hx
    have := h2 t _ (List.getElem?_eq_getElem ht) (Nat.zero_le _)
    simp [this]
  | a :: r, p, i + 1, hi, h1, h2 => by
    have ha := h1 0 a rfl (Nat.succ_pos _)
    unfold cntOf
    rw [List.countP_cons_of_pos (by exact ha)]
    have := cnt_boundary (xs := r) (p := p) (i := i) (by simpa using hi) (fun t f hf ht => h1 (t + 1) f (by simpa using hf) (by omega)) (fun t f hf ht => h2 (t + 1) f (by simpa using hf) (by omega))
    unfold cntOf at this
    rw [this]
/-- Where papers rise, a paper stands behind all that are before it. -/
theorem finOf_cnt : ∀ {xs : List Fin4} {p : ByteArray} {f : Fin4}, Rises xs → finOf xs p = some f → xs[cntOf xs p]? = some f ∧ f.paper = p
  | [], _, _, _, h => by cases h
  | a :: r, p, f, hr, h => by
    obtain ⟨h1, h2⟩ := List.pairwise_cons.1 hr
    unfold finOf at h
    rw [List.find?_cons] at h
    by_cases e : a.paper = p
    · have : isPaper p a = true := by simp [isPaper, e]
      rw [this] at h
      injection h with h
      subst h
      have hc : cntOf (a :: r) p = 0 := by
        unfold cntOf
        rw [List.countP_eq_zero]
        intro x hx
        rcases List.mem_cons.1 hx with rfl | hx
        · rw [e]; simp [bl_irrefl]
        · intro hb
          have := bl_trans (h1 x hx) hb
          rw [e, bl_irrefl] at this; cases this
      rw [hc]
      exact ⟨rfl, e⟩
    · have : isPaper p a = false := by simp [isPaper, e]
      rw [this] at h
      obtain ⟨h3, h4⟩ := finOf_cnt h2 h
      refine ⟨?_, h4⟩
      have hm : f ∈ r := List.mem_of_find?_eq_some h
      have hlt : Op.bytesLess a.paper.toList p.toList = true := by rw [← h4]; exact h1 f hm
      have hc : cntOf (a :: r) p = cntOf r p + 1 := by unfold cntOf; rw [List.countP_cons_of_pos (by exact hlt)]
      rw [hc]
      exact h3
theorem finOf_none {xs : List Fin4} {p : ByteArray} (h : finOf xs p = none) {i : Nat} {f : Fin4} (hi : xs[i]? = some f) : f.paper ≠ p := by
  have := List.find?_eq_none.1 h f (List.mem_of_getElem? hi)
  simpa [isPaper] using this
theorem finOf_has {xs : List Fin4} {p : ByteArray} {i : Nat} {f : Fin4} (hi : xs[i]? = some f) (hp : f.paper = p) : (finOf xs p).isSome = true := by
  unfold finOf
  rw [List.find?_isSome]
  exact ⟨f, List.mem_of_getElem? hi, by simp [isPaper, hp]⟩
theorem findG_find {α : Type} {p : α → Bool} : ∀ {xs : List α} {k : Nat}, (xs.find? p = none ∧ findG p k xs = -1) ∨ ∃ (i : Nat) (f : α), xs.find? p = some f ∧ findG p k xs = ((k + i : Nat) : Int) ∧ xs[i]? = some f
  | [], k => Or.inl ⟨rfl, rfl⟩
  | a :: r, k => by
    rw [findG, List.find?_cons]
    cases h : p a with
    | true => exact Or.inr ⟨0, a, rfl, by simp, rfl⟩
    | false =>
      rcases findG_find (p := p) (xs := r) (k := k + 1) with ⟨h1, h2⟩ | ⟨i, f, h1, h2, h3⟩
      · exact Or.inl ⟨h1, by simpa using h2⟩
      · exact Or.inr ⟨i + 1, f, h1, by rw [if_neg (by simp), h2]; omega, by simpa using h3⟩
end Go.Proofs.YtbpbhpmkganefaaGreatDoor

/- Volumes: how they lie in memory; what CheckVolume and VolumeFault compute. No program in sight. -/
namespace Go.Proofs.YtbpbhpmkganefaaGreatDoor
open Go.RowKit

structure Chap where
  title : ByteArray
  papers : List ByteArray
structure Leaf3 where
  paper : ByteArray
  lo : Int
  hi : Int
def ChapSmall (x : Chap) : Prop := x.title.size ≤ 1000000 ∧ x.papers.length ≤ 1000
/-- A chapter, as it is read. -/
def RChap : Rel Chap := fun F w vs x => ∃ a cap, vs = [.string x.title, .slice a x.papers.length cap] ∧ ChapSmall x ∧ x.papers.length ≤ cap ∧ Sl RStr 1 F w a x.papers.length x.papers
theorem RChap.ok : RChap.Ok := by
  refine ⟨?_, ?_, ?_⟩
  · rintro F w w' vs x hk ⟨a, cap, rfl, h1, h2, h3⟩
    exact ⟨a, cap, rfl, h1, h2, h3.keep RStr.ok hk⟩
  · rintro F G w vs x hk ⟨a, cap, rfl, h1, h2, h3⟩
    exact ⟨a, cap, rfl, h1, h2, h3.mono RStr.ok hk⟩
  · rintro F w vs x ⟨a, cap, rfl, h1, h2, h3⟩
    exact ⟨a, cap, rfl, h1, h2, h3.live RStr.ok (by decide)⟩
/-- A chapter whose papers lie in a row of their own. -/
def RChapO (m : Nat) : Rel Chap := fun F w vs x => ∃ cv, vs = [.string x.title, cv] ∧ (x.title.size ≤ 1000000 ∧ x.papers.length ≤ m) ∧ Acc RStr 1 9 (fun _ => False) 0 w cv x.papers ∧ ∀ k, cv.ownBlock = some k → F k
theorem RChapO.ok (m : Nat) : (RChapO m).Ok := by
  refine ⟨?_, ?_, ?_⟩
  · rintro F w w' vs x hk ⟨cv, rfl, h1, h2, h3⟩
    exact ⟨cv, rfl, h1, h2.keep RStr.ok hk (fun _ h => h.elim) h3, h3⟩
  · rintro F G w vs x hk ⟨cv, rfl, h1, h2, h3⟩
    exact ⟨cv, rfl, h1, h2, fun k hk' => hk k (h3 k hk')⟩
  · rintro F w vs x ⟨cv, rfl, h1, h2, h3⟩
    exact ⟨cv, rfl, h1, h2, fun k hk' => ⟨h3 k hk', (h2.lt k hk').2⟩⟩
theorem RChapO.up {m m' : Nat} (hm : m ≤ m') {F : Nat → Prop} {w : World} {vs : List Value} {x : Chap} (h : RChapO m F w vs x) : RChapO m' F w vs x := by
  obtain ⟨cv, rfl, h1, h2, h3⟩ := h
  exact ⟨cv, rfl, ⟨h1.1, Nat.le_trans h1.2 hm⟩, h2, h3⟩
theorem RChapO.read {m : Nat} (hm : m ≤ 1000) {F : Nat → Prop} {w : World} {vs : List Value} {x : Chap} (h : RChapO m F w vs x) : RChap F w vs x := by
  obtain ⟨cv, rfl, h1, h2, h3⟩ := h
  obtain ⟨a, cap, rfl, hc⟩ := h2.form
  obtain ⟨a', cap', hv, hsl⟩ := h2.sl RStr.ok (by decide) (G := F) (fun _ h => h.elim) h3
  cases hv
  exact ⟨a, cap, rfl, ⟨h1.1, by have := h1.2; omega⟩, hc, hsl⟩
theorem Sl.atChap {F : Nat → Prop} {w : World} {a : Option Addr} {len : Nat} {xs : List Chap} (h : Sl RChap 2 F w a len xs) {k : Nat} (hk : k < len) :
    ∃ b off x ac cc, a = some ⟨b, off, none⟩ ∧ F b ∧ w.cell? ⟨b, off + k * 2, none⟩ = some (.string x.title) ∧ w.cell? ⟨b, off + k * 2 + 1, none⟩ = some (.slice ac x.papers.length cc) ∧
      x.title.size ≤ 1000000 ∧ x.papers.length ≤ 1000 ∧ x.papers.length ≤ cc ∧ Sl RStr 1 F w ac x.papers.length x.papers ∧ xs[k]? = some x ∧ xs.take (k + 1) = xs.take k ++ [x] := by
  obtain ⟨b, off, vs, x, ha, hF, h1, h2, ⟨ac, cc, rfl, hsm, hcc, hc⟩, h4, h5, h6⟩ := h.at hk
  exact ⟨b, off, x, ac, cc, ha, hF, by simpa using h2 0 (by simp), by simpa using h2 1 (by simp), hsm.1, hsm.2, hcc, hc, h4, h6⟩
/-- A leaf. -/
def RLeaf : Rel Leaf3 := fun _ _ vs x => vs = [.string x.paper, .int .i64 x.lo, .int .i64 x.hi] ∧ x.paper.size ≤ 1000000
theorem RLeaf.ok : RLeaf.Ok := ⟨fun _ h => h, fun _ h => h, fun h => h⟩

/-- The error of papers of a chapter, behind those seen. -/
def papsF (xs : List Fin4) (seen : List ByteArray) : List ByteArray → Int
  | [] => 0
  | p :: l => if (finOf xs p).isSome = false then 8 else if memB p seen = true then 6 else papsF xs (seen ++ [p]) l
noncomputable def chapsF (xs : List Fin4) (seen : List ByteArray) : List Chap → Int
  | [] => 0
  | c :: l => if lineB c.title 200 = false then 3 else if papsF xs seen c.papers ≠ 0 then papsF xs seen c.papers else chapsF xs (seen ++ c.papers) l
/-- All papers of chapters. -/
def allP (cs : List Chap) : List ByteArray := cs.flatMap (·.papers)
def pgOf (xs : List Fin4) (p : ByteArray) : Int := match finOf xs p with | some f => f.pages | none => 0
/-- The page on which the next paper begins. -/
def nextPg (right : Bool) (page : Int) : Int := if right = true ∧ page % 2 = 0 then page + 1 else page
def leavesF (xs : List Fin4) (right : Bool) : Int → List ByteArray → List Leaf3
  | _, [] => []
  | page, p :: l => ⟨p, nextPg right page, nextPg right page + pgOf xs p - 1⟩ :: leavesF xs right (nextPg right page + pgOf xs p) l
/-- The page behind all papers. -/
def pageF (xs : List Fin4) (right : Bool) : Int → List ByteArray → Int
  | page, [] => page
  | page, p :: l => pageF xs right (nextPg right page + pgOf xs p) l
def tooLong (ls : List Leaf3) : Bool := match ls.getLast? with | some x => decide (5000 < x.hi) | none => false
noncomputable def volF (first : Int) (right : Bool) (cs : List Chap) (xs : List Fin4) : Int :=
  if finalsF xs ≠ 0 then finalsF xs else if first < 1 ∨ 5000 < first then 1 else if 40 < cs.length then 2 else if chapsF xs [] cs ≠ 0 then chapsF xs [] cs else if tooLong (leavesF xs right first (allP cs)) = true then 2 else 0

theorem leavesF_append (xs : List Fin4) (right : Bool) : ∀ (page : Int) (a b : List ByteArray), leavesF xs right page (a ++ b) = leavesF xs right page a ++ leavesF xs right (pageF xs right page a) b
  | _, [], _ => rfl
  | page, p :: l, b => by simp only [List.cons_append, leavesF, pageF, leavesF_append]
theorem pageF_append (xs : List Fin4) (right : Bool) : ∀ (page : Int) (a b : List ByteArray), pageF xs right page (a ++ b) = pageF xs right (pageF xs right page a) b
  | _, [], _ => rfl
  | page, p :: l, b => by simp only [List.cons_append, pageF, pageF_append]
theorem leavesF_one (xs : List Fin4) (right : Bool) (page : Int) (a : List ByteArray) (p : ByteArray) : leavesF xs right page (a ++ [p]) = leavesF xs right page a ++ [⟨p, nextPg right (pageF xs right page a), nextPg right (pageF xs right page a) + pgOf xs p - 1⟩] := by
  rw [leavesF_append]; rfl
theorem pageF_one (xs : List Fin4) (right : Bool) (page : Int) (a : List ByteArray) (p : ByteArray) : pageF xs right page (a ++ [p]) = nextPg right (pageF xs right page a) + pgOf xs p := by
  rw [pageF_append]; rfl
theorem leavesF_length (xs : List Fin4) (right : Bool) : ∀ (page : Int) (a : List ByteArray), (leavesF xs right page a).length = a.length
  | _, [] => rfl
  | page, p :: l => by simp [leavesF, leavesF_length]
/-- Pages stay small. -/
theorem pageF_le {xs : List Fin4} {right : Bool} (hp : ∀ x ∈ xs, 1 ≤ x.pages ∧ x.pages ≤ 100) : ∀ {a : List ByteArray} {page : Int}, 1 ≤ page → (∀ p ∈ a, (finOf xs p).isSome = true) → 1 ≤ pageF xs right page a ∧ pageF xs right page a ≤ page + 101 * a.length
  | [], page, h1, _ => by simp [pageF, h1]
  | p :: l, page, h1, h2 => by
    have h3 : 0 ≤ pgOf xs p ∧ pgOf xs p ≤ 100 := by
      unfold pgOf
      split
      · rename_i f hf; have := hp f (List.mem_of_find?_eq_some hf); omega
      · omega
    have h4 : page ≤ nextPg right page ∧ nextPg right page ≤ page + 1 := by unfold nextPg; split <;> omega
    have := pageF_le hp (a := l) (page := nextPg right page + pgOf xs p) (right := right) (by omega) (fun q hq => h2 q (List.mem_cons_of_mem _ hq))
    simp only [pageF, List.length_cons]
    omega

theorem papsF_cons (xs : List Fin4) (seen : List ByteArray) (p : ByteArray) (l : List ByteArray) : papsF xs seen (p :: l) = if (finOf xs p).isSome = false then 8 else if memB p seen = true then 6 else papsF xs (seen ++ [p]) l := rfl
theorem chapsF_cons (xs : List Fin4) (seen : List ByteArray) (c : Chap) (l : List Chap) : chapsF xs seen (c :: l) = if lineB c.title 200 = false then 3 else if papsF xs seen c.papers ≠ 0 then papsF xs seen c.papers else chapsF xs (seen ++ c.papers) l := rfl
/-- The walk over papers up to place j has found nothing. -/
def PapAt (xs : List Fin4) (seen ps : List ByteArray) (j : Nat) : Prop := papsF xs seen ps = papsF xs (seen ++ ps.take j) (ps.drop j)
section
variable {xs : List Fin4} {seen ps : List ByteArray} {j : Nat} {p : ByteArray}
theorem PapAt.zero (xs : List Fin4) (seen ps : List ByteArray) : PapAt xs seen ps 0 := by simp [PapAt]
theorem PapAt.none (h : PapAt xs seen ps j) (hp : ps[j]? = some p) (hn : (finOf xs p).isSome = false) : papsF xs seen ps = 8 := by
  rw [h, drop_at hp, papsF_cons, if_pos hn]
theorem PapAt.twice (h : PapAt xs seen ps j) (hp : ps[j]? = some p) (hn : (finOf xs p).isSome = true) (ht : memB p (seen ++ ps.take j) = true) : papsF xs seen ps = 6 := by
  rw [h, drop_at hp, papsF_cons, if_neg (by simp [hn]), if_pos ht]
theorem PapAt.next (h : PapAt xs seen ps j) (hp : ps[j]? = some p) (hn : (finOf xs p).isSome = true) (ht : memB p (seen ++ ps.take j) = false) : PapAt xs seen ps (j + 1) := by
  unfold PapAt at *
  obtain ⟨hk, rfl⟩ := List.getElem?_eq_some_iff.1 hp
  rw [h, drop_at hp, papsF_cons, if_neg (by simp [hn]), if_neg (by simp [ht]), List.take_succ_eq_append_getElem hk, List.append_assoc]
theorem PapAt.ok (h : PapAt xs seen ps j) (hj : ps.length ≤ j) : papsF xs seen ps = 0 := by
  rw [h, List.drop_of_length_le hj]; rfl
end
/-- The walk over chapters up to place k has found nothing. -/
def ChapAt (xs : List Fin4) (cs : List Chap) (k : Nat) : Prop := chapsF xs [] cs = chapsF xs (allP (cs.take k)) (cs.drop k)
section
variable {xs : List Fin4} {cs : List Chap} {k : Nat} {c : Chap}
theorem allP_succ (hc : cs[k]? = some c) : allP (cs.take (k + 1)) = allP (cs.take k) ++ c.papers := by
  obtain ⟨hk, rfl⟩ := List.getElem?_eq_some_iff.1 hc
  rw [List.take_succ_eq_append_getElem hk, allP, allP, List.flatMap_append, List.flatMap_singleton]
theorem ChapAt.zero (xs : List Fin4) (cs : List Chap) : ChapAt xs cs 0 := by simp [ChapAt, allP]
theorem ChapAt.form (h : ChapAt xs cs k) (hc : cs[k]? = some c) (hl : lineB c.title 200 = false) : chapsF xs [] cs = 3 := by
  rw [h, drop_at hc, chapsF_cons, if_pos hl]
theorem ChapAt.bad {e : Int} (h : ChapAt xs cs k) (hc : cs[k]? = some c) (hl : lineB c.title 200 = true) (hp : papsF xs (allP (cs.take k)) c.papers = e) (he : e ≠ 0) : chapsF xs [] cs = e := by
  rw [h, drop_at hc, chapsF_cons, if_neg (by simp [hl]), hp, if_pos he]
theorem ChapAt.next (h : ChapAt xs cs k) (hc : cs[k]? = some c) (hl : lineB c.title 200 = true) (hp : papsF xs (allP (cs.take k)) c.papers = 0) : ChapAt xs cs (k + 1) := by
  unfold ChapAt at *
  rw [h, drop_at hc, chapsF_cons, if_neg (by simp [hl]), hp, if_neg (by simp), allP_succ hc]
theorem ChapAt.ok (h : ChapAt xs cs k) (hk : cs.length ≤ k) : chapsF xs [] cs = 0 := by
  rw [h, List.drop_of_length_le hk]; rfl
end
theorem papsF_found {xs : List Fin4} : ∀ {ps seen : List ByteArray}, papsF xs seen ps = 0 → ∀ p ∈ ps, (finOf xs p).isSome = true
  | [], _, _, p, hp => by cases hp
  | q :: l, seen, h, p, hp => by
    rw [papsF_cons] at h
    split at h
    · omega
    · rename_i h1
      split at h
      · omega
      · rcases List.mem_cons.1 hp with rfl | hp
        · cases hs : (finOf xs p).isSome
          · exact absurd hs h1
          · rfl
        · exact papsF_found h p hp
theorem chapsF_found {xs : List Fin4} : ∀ {cs : List Chap} {seen : List ByteArray}, chapsF xs seen cs = 0 → ∀ p ∈ allP cs, (finOf xs p).isSome = true
  | [], _, _, p, hp => by simp [allP] at hp
  | c :: l, seen, h, p, hp => by
    rw [chapsF_cons] at h
    split at h
    · omega
    · by_cases h0 : papsF xs seen c.papers = 0
      · rw [if_neg (by simp [h0])] at h
        rcases List.mem_append.1 (show p ∈ c.papers ++ allP l by simpa [allP] using hp) with h1 | h1
        · exact papsF_found h0 p h1
        · exact chapsF_found h p h1
      · rw [if_pos h0] at h
        exact absurd h h0
theorem volF_fin {first : Int} {right : Bool} {cs : List Chap} {xs : List Fin4} (h : finalsF xs ≠ 0) : volF first right cs xs = finalsF xs := by rw [volF, if_pos h]
section
variable {first : Int} {right : Bool} {cs : List Chap} {xs : List Fin4}
theorem volF_arg (h : finalsF xs = 0) (h1 : first < 1 ∨ 5000 < first) : volF first right cs xs = 1 := by rw [volF, if_neg (by simp [h]), if_pos h1]
theorem volF_large (h : finalsF xs = 0) (h1 : ¬ (first < 1 ∨ 5000 < first)) (h2 : 40 < cs.length) : volF first right cs xs = 2 := by rw [volF, if_neg (by simp [h]), if_neg h1, if_pos h2]
theorem volF_chap {e : Int} (h : finalsF xs = 0) (h1 : ¬ (first < 1 ∨ 5000 < first)) (h2 : ¬ 40 < cs.length) (h3 : chapsF xs [] cs = e) (he : e ≠ 0) : volF first right cs xs = e := by rw [volF, if_neg (by simp [h]), if_neg h1, if_neg h2, h3, if_pos he]
theorem volF_end (h : finalsF xs = 0) (h1 : ¬ (first < 1 ∨ 5000 < first)) (h2 : ¬ 40 < cs.length) (h3 : chapsF xs [] cs = 0) : volF first right cs xs = if tooLong (leavesF xs right first (allP cs)) = true then 2 else 0 := by rw [volF, if_neg (by simp [h]), if_neg h1, if_neg h2, h3, if_neg (by simp)]
end
end Go.Proofs.YtbpbhpmkganefaaGreatDoor
