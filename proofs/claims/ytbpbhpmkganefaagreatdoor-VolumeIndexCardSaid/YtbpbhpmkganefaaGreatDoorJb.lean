/- Volumes: what At, Contents and their references compute. No program in sight. -/
import Derived.Test.YtbpbhpmkganefaaGreatDoorVa
import Derived.Lib.ItoaLen
import Derived.Test.YtbpbhpmkganefaaGreatDoorVe
namespace Go.Proofs.YtbpbhpmkganefaaGreatDoor
open Go.RowKit

/-- Papers of chapters without error are met once. -/
theorem papsF_nodup {xs : List Fin4} : ∀ {ps seen : List ByteArray}, papsF xs seen ps = 0 → ps.Nodup ∧ ∀ p ∈ ps, p ∉ seen
  | [], _, _ => ⟨List.nodup_nil, fun p hp => by cases hp⟩
  | q :: l, seen, h => by
    rw [papsF_cons] at h
    split at h
    · omega
    · split at h
      · omega
      · rename_i h2
        obtain ⟨h3, h4⟩ := papsF_nodup h
        have hq : q ∉ seen := fun e => h2 (memB_iff.2 e)
        refine ⟨List.nodup_cons.2 ⟨fun e => h4 q e (by simp), h3⟩, fun p hp => ?_⟩
        rcases List.mem_cons.1 hp with rfl | hp
        · exact hq
        · exact fun e => h4 p hp (List.mem_append_left _ e)
theorem chapsF_nodup {xs : List Fin4} : ∀ {cs : List Chap} {seen : List ByteArray}, chapsF xs seen cs = 0 → (allP cs).Nodup ∧ ∀ p ∈ allP cs, p ∉ seen
  | [], _, _ => ⟨by simp [allP], fun p hp => by simp [allP] at hp⟩
  | c :: l, seen, h => by
    rw [chapsF_cons] at h
    split at h
    · omega
    · by_cases h0 : papsF xs seen c.papers = 0
      · rw [if_neg (by simp [h0])] at h
        obtain ⟨h1, h2⟩ := papsF_nodup h0
        obtain ⟨h3, h4⟩ := chapsF_nodup h
        have e : allP (c :: l) = c.papers ++ allP l := by simp [allP]
        rw [e]
        refine ⟨List.nodup_append.2 ⟨h1, h3, fun a ha b hb hab => h4 b hb (List.mem_append_right _ (hab ▸ ha))⟩, fun p hp => ?_⟩
        rcases List.mem_append.1 hp with hp | hp
        · exact h2 p hp
        · exact fun e => h4 p hp (List.mem_append_left _ e)
      · rw [if_pos h0] at h
        exact absurd h h0
theorem chapsF_titles {xs : List Fin4} : ∀ {cs : List Chap} {seen : List ByteArray}, chapsF xs seen cs = 0 → ∀ c ∈ cs, lineB c.title 200 = true
  | [], _, _, c, hc => by cases hc
  | d :: l, seen, h, c, hc => by
    rw [chapsF_cons] at h
    by_cases h5 : lineB d.title 200 = false
    · rw [if_pos h5] at h; omega
    · rw [if_neg h5] at h
      by_cases h0 : papsF xs seen d.papers = 0
      · rw [if_neg (by simp [h0])] at h
        rcases List.mem_cons.1 hc with rfl | hc
        · cases h6 : lineB c.title 200
          · exact absurd h6 h5
          · rfl
        · exact chapsF_titles h c hc
      · rw [if_pos h0] at h
        exact absurd h h0
theorem allP_small {xs : List Fin4} {cs : List Chap} (h : chapsF xs [] cs = 0) : (allP cs).length ≤ xs.length := by
  have h1 := (chapsF_nodup h).1.length_le_of_subset (l₂ := xs.map (·.paper)) (fun p hp => by
    have h2 := chapsF_found h p hp
    obtain ⟨x, hx, hp2⟩ := List.find?_isSome.1 h2
    exact List.mem_map.2 ⟨x, hx, by simpa [isPaper] using hp2⟩)
  simpa using h1
theorem lineB_size {s : ByteArray} {m : Int} (h : lineB s m = true) : 0 < s.size ∧ (s.size : Int) ≤ m := by
  unfold lineB at h
  simp only [Bool.and_eq_true, decide_eq_true_eq, Bool.not_eq_true'] at h
  obtain ⟨⟨h1, -⟩, h2⟩ := h
  exact ⟨by have := of_decide_eq_false h1; omega, h2⟩

/-- The leaf of a paper. -/
def leafOf (ls : List Leaf3) (p : ByteArray) : Option Leaf3 := ls.find? fun x => decide (x.paper = p)
def loOf (ls : List Leaf3) (p : ByteArray) : Int := match leafOf ls p with | some x => x.lo | none => 0
theorem leavesF_papers (xs : List Fin4) (right : Bool) : ∀ (page : Int) (ps : List ByteArray), (leavesF xs right page ps).map (·.paper) = ps
  | _, [] => rfl
  | page, p :: l => by simp [leavesF, leavesF_papers]
theorem leafOf_at : ∀ {ls : List Leaf3} {i : Nat} {x : Leaf3}, (ls.map (·.paper)).Nodup → ls[i]? = some x → leafOf ls x.paper = some x
  | y :: l, 0, x, _, hx => by
    have : y = x := by simpa using hx
    subst this
    simp [leafOf]
  | y :: l, i + 1, x, hn, hx => by
    have hx' : l[i]? = some x := by simpa using hx
    have hn' := List.nodup_cons.1 (show (y.paper :: l.map (·.paper)).Nodup by simpa using hn)
    have hne : y.paper ≠ x.paper := fun e => hn'.1 (e ▸ List.mem_map.2 ⟨x, List.mem_of_getElem? hx', rfl⟩)
    have := leafOf_at hn'.2 hx'
    unfold leafOf at this ⊢
    rw [List.find?_cons_of_neg (by simpa using hne)]
    exact this
theorem loOf_at {ls : List Leaf3} {i : Nat} {x : Leaf3} (hn : (ls.map (·.paper)).Nodup) (hx : ls[i]? = some x) : loOf ls x.paper = x.lo := by
  unfold loOf; rw [leafOf_at hn hx]

/-- The paper on a page. -/
def onPage (page : Int) (ls : List Leaf3) : Option Leaf3 := ls.find? fun x => decide (x.lo ≤ page ∧ page ≤ x.hi)
def onPageS (page : Int) (ls : List Leaf3) : ByteArray := match onPage page ls with | some x => x.paper | none => ⟨#[]⟩

/-- The title of a paper. -/
def titleOf (xs : List Fin4) (p : ByteArray) : ByteArray := match finOf xs p with | some f => f.title | none => ⟨#[]⟩
def headC (t : ByteArray) : ByteArray := t ++ ⟨#[10]⟩
def lineC (t : ByteArray) (n : Int) : ByteArray := (((⟨#[32, 32]⟩ ++ t) ++ ⟨#[32, 32]⟩) ++ ⟨(Lib.itoa n).toArray⟩) ++ ⟨#[10]⟩
/-- The lines of papers, of chapters. -/
def papC (xs : List Fin4) (ls : List Leaf3) (ps : List ByteArray) : List UInt8 := ps.flatMap fun p => (lineC (titleOf xs p) (loOf ls p)).data.toList
def chapC (xs : List Fin4) (ls : List Leaf3) (cs : List Chap) : List UInt8 := cs.flatMap fun c => (headC c.title).data.toList ++ papC xs ls c.papers
theorem papC_succ {xs : List Fin4} {ls : List Leaf3} {ps : List ByteArray} {j : Nat} {p : ByteArray} (h : ps.take (j + 1) = ps.take j ++ [p]) : papC xs ls (ps.take (j + 1)) = papC xs ls (ps.take j) ++ (lineC (titleOf xs p) (loOf ls p)).data.toList := by
  rw [h]; simp [papC]
theorem chapC_succ {xs : List Fin4} {ls : List Leaf3} {cs : List Chap} {k : Nat} {c : Chap} (h : cs.take (k + 1) = cs.take k ++ [c]) : chapC xs ls (cs.take (k + 1)) = chapC xs ls (cs.take k) ++ ((headC c.title).data.toList ++ papC xs ls c.papers) := by
  rw [h]; simp [chapC]
theorem lineC_size (t : ByteArray) (n : Int) : (lineC t n).size = 2 + t.size + 2 + (Lib.itoa n).length + 1 := by
  have h : (⟨(Lib.itoa n).toArray⟩ : ByteArray).size = (Lib.itoa n).length := by
    show (Lib.itoa n).toArray.size = _
    simp
  rw [lineC, ByteArray.size_append, ByteArray.size_append, ByteArray.size_append, ByteArray.size_append, h]
  rfl
theorem headC_size (t : ByteArray) : (headC t).size = t.size + 1 := by
  rw [headC, ByteArray.size_append]
  rfl
theorem data_len (b : ByteArray) : b.data.toList.length = b.size := by rw [Array.length_toList]; rfl
theorem papC_len {xs : List Fin4} {ls : List Leaf3} {M : Nat} : ∀ {ps : List ByteArray}, (∀ p ∈ ps, (lineC (titleOf xs p) (loOf ls p)).size ≤ M) → (papC xs ls ps).length ≤ ps.length * M
  | [], _ => by simp [papC]
  | p :: l, h => by
    have h1 := papC_len (ps := l) (fun q hq => h q (List.mem_cons_of_mem _ hq))
    have h2 := h p (by simp)
    have e : papC xs ls (p :: l) = (lineC (titleOf xs p) (loOf ls p)).data.toList ++ papC xs ls l := by simp [papC]
    rw [e, List.length_append, List.length_cons, Nat.add_mul, Nat.one_mul]
    have h3 : (lineC (titleOf xs p) (loOf ls p)).data.toList.length = (lineC (titleOf xs p) (loOf ls p)).size := data_len _
    omega
theorem chapC_len {xs : List Fin4} {ls : List Leaf3} {M T : Nat} : ∀ {cs : List Chap}, (∀ c ∈ cs, c.title.size ≤ T) → (∀ p ∈ allP cs, (lineC (titleOf xs p) (loOf ls p)).size ≤ M) → (chapC xs ls cs).length ≤ cs.length * (T + 1) + (allP cs).length * M
  | [], _, _ => by simp [chapC]
  | c :: l, h, h' => by
    have ea : allP (c :: l) = c.papers ++ allP l := by simp [allP]
    have h1 := chapC_len (cs := l) (fun d hd => h d (List.mem_cons_of_mem _ hd)) (fun q hq => h' q (by rw [ea]; exact List.mem_append_right _ hq))
    have h2 := papC_len (ps := c.papers) (xs := xs) (ls := ls) (M := M) (fun q hq => h' q (by rw [ea]; exact List.mem_append_left _ hq))
    have h3 := h c (by simp)
    have e : chapC xs ls (c :: l) = ((headC c.title).data.toList ++ papC xs ls c.papers) ++ chapC xs ls l := by simp [chapC]
    have h4 : (headC c.title).data.toList.length = c.title.size + 1 := by rw [← headC_size, data_len]
    rw [e, ea, List.length_append, List.length_append, h4, List.length_cons, List.length_append, Nat.add_mul, Nat.add_mul]
    omega
theorem finF_parts {p : Option ByteArray} {x : Fin4} (h : finF p x = 0) : isKeyB x.paper = true ∧ lineB x.title 200 = true := by
  unfold finF at h
  split at h
  · omega
  · rename_i h1
    split at h
    · omega
    · split at h
      · omega
      · rename_i h3
        constructor
        · cases hk : isKeyB x.paper
          · exact absurd hk h1
          · rfl
        · cases hk : lineB x.title 200
          · exact absurd hk h3
          · rfl
theorem finsF_parts : ∀ {xs : List Fin4} {p : Option ByteArray}, finsF p xs = 0 → ∀ x ∈ xs, isKeyB x.paper = true ∧ lineB x.title 200 = true
  | [], _, _, x, hx => by cases hx
  | y :: l, p, h, x, hx => by
    rw [finsF_cons] at h
    by_cases hf : finF p y = 0
    · rw [if_neg (by simp [hf])] at h
      rcases List.mem_cons.1 hx with rfl | hx
      · exact finF_parts hf
      · exact finsF_parts h x hx
    · rw [if_pos hf] at h
      exact absurd h hf
theorem finalsF_parts {xs : List Fin4} (h : finalsF xs = 0) : ∀ x ∈ xs, isKeyB x.paper = true ∧ lineB x.title 200 = true := by
  unfold finalsF at h
  split at h
  · omega
  · exact finsF_parts h
/-- A paper that is found: its title is short, it is no empty string. -/
theorem found_parts {xs : List Fin4} (h : finalsF xs = 0) {p : ByteArray} (hp : (finOf xs p).isSome = true) : (titleOf xs p).size ≤ 200 ∧ 0 < p.size := by
  obtain ⟨f, hf⟩ := Option.isSome_iff_exists.1 hp
  have h1 := finalsF_parts h f (List.mem_of_find?_eq_some hf)
  have h2 := List.find?_some hf
  have h3 : f.paper = p := by simpa [isPaper] using h2
  have h4 := lineB_size h1.2
  refine ⟨by unfold titleOf; rw [hf]; dsimp only; omega, ?_⟩
  rw [← h3]
  have h5 : isKey f.paper := by
    rcases Classical.em (isKey f.paper) with h | h
    · exact h
    · rw [isKeyB_false h] at h1
      cases h1.1
  exact h5.2.1
end Go.Proofs.YtbpbhpmkganefaaGreatDoor

/- Equal of leaves; Pages, At; PaperOn, LeafOf. -/
namespace Go.Proofs.YtbpbhpmkganefaaGreatDoor
open Go.RowKit

theorem Sl.atLeaf {F : Nat → Prop} {w : World} {a : Option Addr} {len : Nat} {xs : List Leaf3} (h : Sl RLeaf 3 F w a len xs) {k : Nat} (hk : k < len) :
    ∃ b off x, a = some ⟨b, off, none⟩ ∧ F b ∧ w.cell? ⟨b, off + k * 3, none⟩ = some (.string x.paper) ∧ w.cell? ⟨b, off + k * 3 + 1, none⟩ = some (.int .i64 x.lo) ∧ w.cell? ⟨b, off + k * 3 + 2, none⟩ = some (.int .i64 x.hi) ∧
      x.paper.size ≤ 1000000 ∧ xs[k]? = some x ∧ xs = xs.take k ++ x :: xs.drop (k + 1) ∧ xs.take (k + 1) = xs.take k ++ [x] := by
  obtain ⟨b, off, vs, x, ha, hF, h1, h2, ⟨rfl, hsm⟩, h4, h5, h6⟩ := h.at hk
  exact ⟨b, off, x, ha, hF, by simpa using h2 0 (by simp), by simpa using h2 1 (by simp), by simpa using h2 2 (by simp), hsm, h4, h5, h6⟩


/-- What is known of a volume and finals without error. -/
structure VolOk (first : Int) (right : Bool) (cs : List Chap) (xs : List Fin4) : Prop where
  fin : finalsF xs = 0
  lo : 1 ≤ first
  hi : first ≤ 5000
  len : cs.length ≤ 40
  chap : chapsF xs [] cs = 0
theorem VolOk.of {first : Int} {right : Bool} {cs : List Chap} {xs : List Fin4} (h : volF first right cs xs = 0) : VolOk first right cs xs := by
  unfold volF at h
  by_cases h1 : finalsF xs = 0
  · rw [if_neg (by simp [h1])] at h
    by_cases h2 : first < 1 ∨ 5000 < first
    · rw [if_pos h2] at h; omega
    · rw [if_neg h2] at h
      by_cases h3 : 40 < cs.length
      · rw [if_pos h3] at h; omega
      · rw [if_neg h3] at h
        by_cases h4 : chapsF xs [] cs = 0
        · exact ⟨h1, by omega, by omega, by omega, h4⟩
        · rw [if_pos h4] at h; exact absurd h h4
  · rw [if_pos h1] at h; exact absurd h h1
/-- The leaves of a volume. -/
abbrev lvs (first : Int) (right : Bool) (cs : List Chap) (xs : List Fin4) : List Leaf3 := leavesF xs right first (allP cs)

def PagesPost (er : Int) (ls : List Leaf3) (w : World) (e : Ending) (w' : World) : Prop :=
  ∃ a cap n, e = .returned (.tuple #[.slice a n cap, .int .i64 er]) ∧ (er ≠ 0 → n = 0) ∧ (er = 0 → n = ls.length ∧ Sl RLeaf 3 (fun _ => True) w' a n ls) ∧ All w w'

theorem ret_pair {s t : ByteArray} {a b : Int} (h : s = t) (h2 : a = b) : Ending.returned (.tuple #[.string s, .int .i64 a]) = .returned (.tuple #[.string t, .int .i64 b]) := by rw [h, h2]
theorem ret_str {s t : ByteArray} (h : s = t) : Ending.returned (.string s) = .returned (.string t) := by rw [h]
/-- The search over a list up to place k has found nothing. -/
def NotF {α : Type} (p : α → Bool) (ls : List α) (k : Nat) : Prop := (ls.drop k).find? p = ls.find? p
section
variable {α : Type} {p : α → Bool} {ls : List α} {k : Nat} {x : α}
theorem NotF.zero (p : α → Bool) (ls : List α) : NotF p ls 0 := by simp [NotF]
theorem NotF.next (h : NotF p ls k) (hx : ls[k]? = some x) (hp : p x = false) : NotF p ls (k + 1) := by
  unfold NotF at *
  rw [drop_at hx, List.find?_cons_of_neg (by simp [hp])] at h
  exact h
theorem NotF.found (h : NotF p ls k) (hx : ls[k]? = some x) (hp : p x = true) : ls.find? p = some x := by
  unfold NotF at h
  rw [drop_at hx, List.find?_cons_of_pos (by simp [hp])] at h
  exact h.symm
theorem NotF.none (h : NotF p ls k) (hk : ls.length ≤ k) : ls.find? p = none := by
  unfold NotF at h
  rw [List.drop_of_length_le hk] at h
  exact h.symm
end
def onP (page : Int) (x : Leaf3) : Bool := decide (x.lo ≤ page ∧ page ≤ x.hi)
def isP (p : ByteArray) (x : Leaf3) : Bool := decide (x.paper = p)
theorem onPage_eq (page : Int) (ls : List Leaf3) : onPage page ls = ls.find? (onP page) := rfl
theorem leafOf_eq (p : ByteArray) (ls : List Leaf3) : leafOf ls p = ls.find? (isP p) := rfl
noncomputable def atE (first : Int) (right : Bool) (cs : List Chap) (xs : List Fin4) (page : Int) : Int := if volF first right cs xs ≠ 0 then volF first right cs xs else if (onPage page (lvs first right cs xs)).isSome = true then 0 else 8
noncomputable def atS (first : Int) (right : Bool) (cs : List Chap) (xs : List Fin4) (page : Int) : ByteArray := if volF first right cs xs ≠ 0 then ⟨#[]⟩ else onPageS page (lvs first right cs xs)
section
variable {first : Int} {right : Bool} {cs : List Chap} {xs : List Fin4} {page : Int} {x : Leaf3}
theorem atE_bad (h : volF first right cs xs ≠ 0) : atE first right cs xs page = volF first right cs xs := by rw [atE, if_pos h]
theorem atS_bad (h : volF first right cs xs ≠ 0) : atS first right cs xs page = ⟨#[]⟩ := by rw [atS, if_pos h]
theorem atE_some (h : volF first right cs xs = 0) (hx : onPage page (lvs first right cs xs) = some x) : atE first right cs xs page = 0 := by rw [atE, if_neg (by simp [h]), hx]; rfl
theorem atS_some (h : volF first right cs xs = 0) (hx : onPage page (lvs first right cs xs) = some x) : atS first right cs xs page = x.paper := by rw [atS, if_neg (by simp [h]), onPageS, hx]
theorem atE_none (h : volF first right cs xs = 0) (hx : onPage page (lvs first right cs xs) = none) : atE first right cs xs page = 8 := by rw [atE, if_neg (by simp [h]), hx]; rfl
theorem atS_none (h : volF first right cs xs = 0) (hx : onPage page (lvs first right cs xs) = none) : atS first right cs xs page = ⟨#[]⟩ := by rw [atS, if_neg (by simp [h]), onPageS, hx]
end


end Go.Proofs.YtbpbhpmkganefaaGreatDoor
