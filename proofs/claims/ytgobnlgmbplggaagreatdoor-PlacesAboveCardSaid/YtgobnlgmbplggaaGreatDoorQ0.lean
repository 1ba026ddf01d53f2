/- A region that draws its order, by what each of its operations leaves: no order is looked at. No program in sight. -/
import Derived.Test.YtgobnlgmbplggaaGreatDoorZd
import Derived.Orders
import Derived.Test.YtgobnlgmbplggaaGreatDoorSd
import Derived.Test.YtgobnlgmbplggaaGreatDoorYa
import Derived.Sort.Grow
import Derived.Laws.AppendOwn
import Derived.Test.YtgobnlgmbplggaaGreatDoorMb
namespace Go.Proofs.YtgobnlgmbplggaaGreatDoor
open Go.RowKit

/-- Values put into temporaries. -/
def puts (a : Act) : List (Tmp × Value) → Act
  | [] => a
  | p :: l => puts (a.put (some p.1) p.2) l
theorem puts_defers : ∀ (l : List (Tmp × Value)) (a : Act), (puts a l).defers = a.defers
  | [], _ => rfl
  | p :: l, a => by rw [puts, puts_defers l]; rfl
theorem puts_size : ∀ (l : List (Tmp × Value)) (a : Act), (puts a l).tmps.size = a.tmps.size
  | [], _ => rfl
  | p :: l, a => by rw [puts, puts_size l]; simp [Act.put]
theorem puts_get (f : Tmp → Value) : ∀ (ts : List Tmp) (a : Act) (t : Tmp), t < a.tmps.size → (puts a (ts.map fun t => (t, f t))).tmps[t]? = if t ∈ ts then some (f t) else a.tmps[t]?
  | [], a, t, _ => by simp [puts]
  | s :: ts, a, t, ht => by
    rw [List.map_cons, puts, puts_get f ts _ t (by simpa [Act.put] using ht)]
    by_cases h : t ∈ ts
    · simp [h]
    · by_cases hs : t = s
      · subst hs; simp [h, Act.put, ht]
      · simp [h, hs, Act.put, Ne.symm hs]

def dstAt (ops : Array Oper) (i : Nat) : Option Tmp := (ops[i]?).bind (·.dst)
def dsts (ops : Array Oper) (z : Nat) : List Tmp := (List.range z).filterMap (dstAt ops)
def depsOf (ops : Array Oper) (i : Nat) : List Nat := ((ops[i]?).map fun o => (o.after.toList.filter fun e => Region.binds .any e).map (·.on)).getD []
/-- The operations below z have temporaries of their own and no guards; all wait for earlier ones alone; those below z are each waited for by some up to z; from z on each waits for the one before. -/
def formOk (ops : Array Oper) (z sz : Nat) : Bool :=
  decide (z < ops.size) &&
  (List.range z).all (fun i => match dstAt ops i with | some t => decide (t < sz) && (List.range z).all (fun j => i == j || dstAt ops j != some t) | none => true) &&
  (List.range ops.size).all (fun i => (depsOf ops i).all (· < i)) &&
  (List.range z).all (fun i => (List.range (z + 1)).any fun j => (depsOf ops j).contains i) &&
  (List.range ops.size).all (fun i => i ≤ z || (depsOf ops i).contains (i - 1))

/-- No operation below z is guarded. -/
def plainOk (ops : Array Oper) (z : Nat) : Bool := (List.range z).all (fun i => ((ops[i]?).map (·.guard.isNone)).getD false)
theorem plainOk.guard {ops : Array Oper} {z : Nat} (h : plainOk ops z = true) {i : Nat} {o : Oper} (hi : i < z) (ho : ops[i]? = some o) : o.guard = none := by
  have := List.all_eq_true.1 h i (List.mem_range.2 hi)
  rw [ho] at this
  simpa using this
structure FormIs (ops : Array Oper) (z sz : Nat) : Prop where
  size : z < ops.size
  dst : ∀ i t, i < z → dstAt ops i = some t → t < sz ∧ ∀ j, j < z → j ≠ i → dstAt ops j ≠ some t
  low : ∀ i j, i < ops.size → j ∈ depsOf ops i → j < i
  next : ∀ i, i < z → ∃ j, j < z + 1 ∧ i ∈ depsOf ops j
  tail : ∀ i, z < i → i < ops.size → i - 1 ∈ depsOf ops i
theorem FormIs.of {ops : Array Oper} {z sz : Nat} (h : formOk ops z sz = true) : FormIs ops z sz := by
  simp only [formOk, Bool.and_eq_true, List.all_eq_true, List.mem_range, decide_eq_true_eq] at h
  obtain ⟨⟨⟨⟨h1, h3⟩, h4⟩, h5⟩, h6⟩ := h
  refine ⟨h1, fun i t hi ht => ?_, fun i j hi hj => ?_, fun i hi => ?_, fun i hz hi => ?_⟩
  · have := h3 i hi
    rw [ht] at this
    simp only [Bool.and_eq_true, decide_eq_true_eq, List.all_eq_true, List.mem_range, Bool.or_eq_true, beq_iff_eq, bne_iff_ne] at this
    exact ⟨this.1, fun j hj hne => (this.2 j hj).resolve_left (fun e => hne e.symm)⟩
  · have := h4 i hi j hj
    simpa using this
  · have := h5 i hi
    simp only [List.any_eq_true, List.mem_range, List.contains_iff_mem] at this
    obtain ⟨j, hj, hm⟩ := this
    exact ⟨j, hj, hm⟩
  · have := h6 i hi
    simp only [Bool.or_eq_true, decide_eq_true_eq, List.contains_iff_mem] at this
    exact this.resolve_left (by omega)

theorem depsOf_some {ops : Array Oper} {i : Nat} {o : Oper} (ho : ops[i]? = some o) {j : Nat} : j ∈ depsOf ops i ↔ ∃ e ∈ o.after, Region.binds .any e = true ∧ e.on = j := by
  simp only [depsOf, ho, Option.map_some, Option.getD_some, List.mem_map, List.mem_filter, Array.mem_toList_iff, and_assoc]

/-- What is known when some operations have come up. -/
structure RInv (ops : Array Oper) (z : Nat) (G : Nat → (Nat → Bool) → Act → World → Prop) (D : Nat → Act → World → Prop) (a0 : Act) (listed : Array Bool) (k : Nat) (a : Act) (w : World) : Prop where
  lsz : listed.size = ops.size
  cnt : listed.toList.count false + k = ops.size
  clo : ∀ i, i < z → listed.getD i false = true → ∀ j ∈ depsOf ops i, listed.getD j false = true
  notz : ∀ i, z ≤ i → listed.getD i false = false
  dfs : a.defers = a0.defers
  tsz : a.tmps.size = a0.tmps.size
  oth : ∀ t, t ∉ dsts ops z → a.tmps[t]? = a0.tmps[t]?
  val : ∀ i, i < z → listed.getD i false = true → D i a w
  g : G k (fun j => listed.getD j false) a w

theorem getD_flip {listed : Array Bool} {i : Nat} (h : i < listed.size) : listed.getD i true = listed.getD i false := by
  simp [Array.getD_eq_getD_getElem?, h]
theorem count_set {listed : Array Bool} {i : Nat} (h : listed.getD i true = false) : (listed.setIfInBounds i true).toList.count false + 1 = listed.toList.count false := by
  have hi : i < listed.size := by
    rcases Nat.lt_or_ge i listed.size with h' | h'
    · exact h'
    · simp [Array.getD_eq_getD_getElem?, h'] at h
  have hv : listed.toList[i]'(by simpa using hi) = false := by simpa [Array.getD_eq_getD_getElem?, hi] using h
  rw [Array.toList_setIfInBounds, List.count_set (by simpa using hi), hv]
  have : 0 < listed.toList.count false := List.count_pos_iff.2 (hv ▸ List.getElem_mem _)
  simp only [beq_self_eq_true, if_true, if_false, show (true == false) = false from rfl, Bool.false_eq_true, Nat.add_zero]
  omega
theorem count_zero {listed : Array Bool} {i : Nat} (hi : i < listed.size) (h : listed.toList.count false = 0) : listed.getD i false = true := by
  have h1 := List.count_eq_zero.1 h
  have h2 : listed[i] ≠ false := fun e => h1 (e ▸ by simp)
  simp [Array.getD_eq_getD_getElem?, hi, h2]
theorem getD_set {listed : Array Bool} {i j : Nat} (hi : i < listed.size) : (listed.setIfInBounds i true).getD j false = if j = i then true else listed.getD j false := by
  by_cases h : j = i
  · subst h; simp [Array.getD_eq_getD_getElem?, hi]
  · simp [Array.getD_eq_getD_getElem?, Ne.symm h, h]

/-- The last operations come up one behind the other. -/
theorem wpAny_tail {P : Program} {ops : Array Oper} {Q : Exit → Act → World → Prop} {z sz : Nat} (hf : FormIs ops z sz) :
    ∀ m j fuel listed a w, j + m = ops.size → z ≤ j → listed.size = ops.size → (∀ i, i < ops.size → listed.getD i false = decide (i < j)) → m ≤ fuel → wpList P ops Q (ops.toList.drop j) a w → wpAny P .any ops Q fuel listed a w := by
  intro m
  induction m with
  | zero =>
    intro j fuel listed a w hj hz hl hli hfu h
    rw [List.drop_of_length_le (by simp; omega)] at h
    have hnone : Region.ready .any ops listed = [] := by
      rw [List.eq_nil_iff_forall_not_mem]
      intro n hn
      obtain ⟨hu, o', ho', _⟩ := mem_ready.1 hn
      have hn' : n < ops.size := (Array.getElem?_eq_some_iff.1 ho').1
      rw [getD_flip (by omega), hli n hn'] at hu
      simp at hu
      omega
    cases fuel with
    | zero => exact ⟨hnone, h⟩
    | succ f => exact ⟨fun _ => h, by rw [hnone]; intro i h; cases h⟩
  | succ m ih =>
    intro j fuel listed a w hj hz hl hli hfu h
    obtain ⟨f, rfl⟩ : ∃ f, fuel = f + 1 := ⟨fuel - 1, by omega⟩
    have hjs : j < ops.size := by omega
    have hro : j ∈ Region.ready .any ops listed := by
      refine mem_ready.2 ⟨by rw [getD_flip (by omega), hli j hjs]; simp, ops[j], Array.getElem?_eq_getElem hjs, fun e he hb => ?_⟩
      have hd : e.on ∈ depsOf ops j := (depsOf_some (Array.getElem?_eq_getElem hjs)).2 ⟨e, he, hb, rfl⟩
      have := hf.low j _ hjs hd
      rw [hli _ (by omega)]
      simpa using this
    refine ⟨fun e => (by rw [e] at hro; cases hro), fun i hr => ?_⟩
    obtain ⟨hun, o, ho, hdep⟩ := mem_ready.1 hr
    have hi : i < ops.size := (Array.getElem?_eq_some_iff.1 ho).1
    have hij : i = j := by
      rw [getD_flip (by omega), hli i hi] at hun
      simp at hun
      by_cases e : i = j
      · exact e
      · have hd := hf.tail i (by omega) hi
        obtain ⟨e', he', hb, hon⟩ := (depsOf_some ho).1 hd
        have := hdep e' he' hb
        rw [hon, hli _ (by omega)] at this
        simp at this
        omega
    subst hij
    have hdrop : ops.toList.drop i = o :: ops.toList.drop (i + 1) := by
      have h1 : ops.toList[i]? = some o := by simpa using ho
      obtain ⟨h2, h3⟩ := List.getElem?_eq_some_iff.1 h1
      rw [← h3]; exact List.drop_eq_getElem_cons h2
    rw [hdrop] at h
    unfold wpList at h
    have hnext : ∀ a' w', wpList P ops Q (ops.toList.drop (i + 1)) a' w' → wpAny P .any ops Q f (listed.setIfInBounds i true) a' w' := fun a' w' h' =>
      ih (i + 1) f _ a' w' (by omega) (by omega) (by simpa using hl) (fun n hn => by
        rw [getD_set (by omega), hli n hn]
        by_cases e : n = i
        · simp [e]
        · rw [if_neg e]; rw [Bool.eq_iff_iff]; simp; omega) (by omega) h'
    unfold wpOp
    simp only [ho]
    split
    · rename_i hw
      rw [if_pos hw] at h
      exact h.imp (Oper.wp_mono hnext) id
    · rename_i hw
      rw [if_neg hw] at h
      exact hnext _ _ h

theorem wpAny_gen {P : Program} {ops : Array Oper} {Q : Exit → Act → World → Prop} {a0 : Act} {z : Nat} (hf : FormIs ops z a0.tmps.size)
    (G : Nat → (Nat → Bool) → Act → World → Prop) (D : Nat → Act → World → Prop) (M : Nat → Act → Value → World → World → Prop) (hM : ∀ i j k L a w v w', i < z → j < z → i ≠ j → j ∉ depsOf ops i → G k L a w → M j a v w w' → D i a w → D i (a.put (dstAt ops j) v) w')
    (hstep : ∀ i o, ops[i]? = some o → i < z → ∀ k L a w, k < z → G k L a w → L i = false → a.defers = a0.defers → a.tmps.size = a0.tmps.size → (∀ t, t ∉ dsts ops z → a.tmps[t]? = a0.tmps[t]?) →
      (∀ j ∈ depsOf ops i, D j a w) → if Region.wanted o (yielded ops a.tmps) = true then o.wp P a w (fun a' w' => ∃ v, a' = a.put o.dst v ∧ G (k + 1) (fun j => if j = i then true else L j) (a.put o.dst v) w' ∧ M i a v w w' ∧ D i (a.put o.dst v) w') Q else G (k + 1) (fun j => if j = i then true else L j) (a.put o.dst undef) w ∧ M i a undef w w ∧ D i (a.put o.dst undef) w)
    (hlast : ∀ w a L, G z L a w → a.tmps.size = a0.tmps.size → (∀ i, i < z → D i a w) → wpList P ops Q (ops.toList.drop z) (puts a0 ((dsts ops z).map fun t => (t, a.tmps.getD t undef))) w) :
    ∀ fuel listed k a w, listed.toList.count false ≤ fuel → RInv ops z G D a0 listed k a w → wpAny P .any ops Q fuel listed a w := by
  intro fuel
  induction fuel with
  | zero =>
    intro listed k a w hfu hi
    have h1 := hf.size
    have := count_zero (i := z) (by rw [hi.lsz]; omega) (by omega)
    rw [hi.notz z (Nat.le_refl _)] at this
    cases this
  | succ fuel ih =>
    intro listed k a w hfu hi
    have hzs := hf.size
    by_cases hallz : ∀ i, i < z → listed.getD i false = true
    · -- the free ones have all come up
      have hli : ∀ i, i < ops.size → listed.getD i false = decide (i < z) := fun i _ => by
        by_cases h : i < z
        · rw [hallz i h]; simp [h]
        · rw [hi.notz i (by omega)]; simp [h]
      have hcount : listed.toList.count false = ops.size - z := by
        have : listed.toList = List.replicate z true ++ List.replicate (ops.size - z) false := by
          apply List.ext_getElem
          · simp [hi.lsz]; omega
          · intro n h1 h2
            have hn : n < ops.size := by simpa [hi.lsz] using h1
            have h3 := hli n hn
            rw [Array.getD_eq_getD_getElem?, Array.getElem?_eq_getElem (by rw [hi.lsz]; exact hn), Option.getD_some, ← Array.getElem_toList] at h3
            rw [h3, List.getElem_append]
            simp
        rw [this, List.count_append, List.count_replicate, List.count_replicate]
        simp
      have hk : k = z := by have := hi.cnt; omega
      subst hk
      have hav : ∀ n, n < k → D n a w := fun n hn => hi.val n hn (hallz n hn)
      have ha : a = puts a0 ((dsts ops k).map fun t => (t, a.tmps.getD t undef)) := by
        have h1 : a.tmps = (puts a0 ((dsts ops k).map fun t => (t, a.tmps.getD t undef))).tmps := by
          apply Array.ext_getElem?
          intro t
          by_cases ht : t < a0.tmps.size
          · rw [puts_get (fun t => a.tmps.getD t undef) _ _ _ ht]
            by_cases hm : t ∈ dsts ops k
            · rw [if_pos hm, Array.getElem?_eq_getElem (by rw [hi.tsz]; exact ht)]
              simp [Array.getD_eq_getD_getElem?, hi.tsz, ht]
            · rw [if_neg hm]; exact hi.oth t hm
          · rw [Array.getElem?_eq_none (by rw [hi.tsz]; omega), Array.getElem?_eq_none (by rw [puts_size]; omega)]
        have h2 : a.defers = (puts a0 ((dsts ops k).map fun t => (t, a.tmps.getD t undef))).defers := by rw [puts_defers]; exact hi.dfs
        cases a
        generalize puts a0 _ = b at h1 h2
        cases b
        simp only at h1 h2
        rw [h1, h2]
      have h3 := hlast w a _ hi.g hi.tsz hav
      rw [← ha] at h3
      exact wpAny_tail hf (ops.size - k) k _ listed a w (by omega) (Nat.le_refl _) hi.lsz hli (by omega) h3
    -- some free one has not come up; the least such can come up
    have hlow : ∃ n, n < z ∧ (∀ i, i < n → listed.getD i false = true) ∧ listed.getD n false = false := by
      have h2 : ∀ m n, n + m = z → (∀ i, i < n → listed.getD i false = true) → ∃ n, n < z ∧ (∀ i, i < n → listed.getD i false = true) ∧ listed.getD n false = false := by
        intro m
        induction m with
        | zero => intro n hn hall; exact absurd (fun i hlt => hall i (by omega)) hallz
        | succ m ihm =>
          intro n hn hall
          by_cases hnn : listed.getD n false = true
          · exact ihm (n + 1) (by omega) (fun i hlt => by
              by_cases e : i = n
              · rw [e]; exact hnn
              · exact hall i (by omega))
          · exact ⟨n, by omega, hall, by simpa using hnn⟩
      exact h2 z 0 (by omega) (fun i h => by omega)
    obtain ⟨n0, hn0, hbelow, hn0u⟩ := hlow
    have hready : n0 ∈ Region.ready .any ops listed := by
      refine mem_ready.2 ⟨by rw [getD_flip (by rw [hi.lsz]; omega)]; exact hn0u, ops[n0]'(by omega), Array.getElem?_eq_getElem _, fun e he hb => ?_⟩
      have hd : e.on ∈ depsOf ops n0 := (depsOf_some (Array.getElem?_eq_getElem (by omega))).2 ⟨e, he, hb, rfl⟩
      exact hbelow _ (hf.low n0 _ (by omega) hd)
    refine ⟨fun h => (by rw [h] at hready; cases hready), fun i hr => ?_⟩
    obtain ⟨hun, o, ho, hdep⟩ := mem_ready.1 hr
    have hlt : i < ops.size := (Array.getElem?_eq_some_iff.1 ho).1
    have hil : i < listed.size := by rw [hi.lsz]; exact hlt
    have hdeps : ∀ j ∈ depsOf ops i, listed.getD j false = true := fun j hj => by
      obtain ⟨e, he, hb, rfl⟩ := (depsOf_some ho).1 hj
      exact hdep e he hb
    have hcs := count_set hun
    have hizl : i < z := by
      rcases Nat.lt_or_ge i z with h | h
      · exact h
      · exfalso
        -- what comes up from z on waits for all below z
        have hzall : ∀ m n, n + m = z → (∀ j ∈ depsOf ops z, listed.getD j false = true) → 0 < m → listed.getD n false = true := by
          intro m
          induction m using Nat.strongRecOn with
          | _ m ihm =>
            intro n hn hz hm
            obtain ⟨j, hj, hd⟩ := hf.next n (by omega)
            have hnj := hf.low j n (by omega) hd
            by_cases hji : j = z
            · rw [hji] at hd; exact hz n hd
            · exact hi.clo j (by omega) (ihm (z - j) (by omega) j (by omega) hz (by omega)) n hd
        by_cases e : i = z
        · subst e
          have := hzall (i - n0) n0 (by omega) hdeps (by omega)
          rw [hn0u] at this
          cases this
        · have := hdeps (i - 1) (hf.tail i (by omega) hlt)
          rw [hi.notz (i - 1) (by omega)] at this
          cases this
    have hod : dstAt ops i = o.dst := by simp [dstAt, ho]
    unfold wpOp
    simp only [ho]
    have hkz : k < z := by
      have h1 : ops.size - z + 1 ≤ listed.toList.count false := by
        have hsp : listed.toList.count false = (listed.toList.take z).count false + (listed.toList.drop z).count false := by
          rw [← List.count_append, List.take_append_drop]
        have hd : (listed.toList.drop z).count false = ops.size - z := by
          have : listed.toList.drop z = List.replicate (ops.size - z) false := by
            apply List.ext_getElem
            · simp [hi.lsz]
            · intro n h1 h2
              have hn : z + n < ops.size := by simp [hi.lsz] at h1; omega
              have h3 := hi.notz (z + n) (by omega)
              rw [Array.getD_eq_getD_getElem?, Array.getElem?_eq_getElem (by rw [hi.lsz]; exact hn), Option.getD_some, ← Array.getElem_toList] at h3
              rw [List.getElem_drop, h3]
              simp
          rw [this, List.count_replicate]
          simp
        have ht : 0 < (listed.toList.take z).count false := by
          apply List.count_pos_iff.2
          rw [Array.getD_eq_getD_getElem?, Array.getElem?_eq_getElem (by rw [hi.lsz]; omega), Option.getD_some, ← Array.getElem_toList] at hn0u
          have h5 : (listed.toList.take z)[n0]'(by simp [hi.lsz]; omega) = false := by rw [List.getElem_take]; exact hn0u
          exact h5 ▸ List.getElem_mem _
        omega
      have := hi.cnt
      omega
    have hst := hstep i o ho hizl k _ a w hkz hi.g (by rw [← getD_flip hil]; exact hun) hi.dfs hi.tsz hi.oth (fun j hj => hi.val j (by have := hf.low i j hlt hj; omega) (hdeps j hj))
    suffices hnext : ∀ a' w', (∃ v, a' = a.put o.dst v ∧ G (k + 1) (fun j => if j = i then true else listed.getD j false) (a.put o.dst v) w' ∧ M i a v w w' ∧ D i (a.put o.dst v) w') → wpAny P .any ops Q fuel (listed.setIfInBounds i true) a' w' by
      split
      · rename_i hw
        rw [if_pos hw] at hst
        exact Or.inl (Oper.wp_mono hnext hst)
      · rename_i hw
        rw [if_neg hw] at hst
        exact hnext _ _ ⟨undef, rfl, hst⟩
    rintro a' w' ⟨v, rfl, hg', hm', hd'⟩
    have hgL : G (k + 1) (fun j => (listed.setIfInBounds i true).getD j false) (a.put o.dst v) w' := by
      rw [show (fun j => (listed.setIfInBounds i true).getD j false) = fun j => if j = i then true else listed.getD j false from funext fun j => getD_set hil]
      exact hg'
    refine ih _ (k + 1) _ _ (by omega) ⟨by simp [hi.lsz], by have := hi.cnt; omega, fun j hj hjl n hn => ?_, fun j hj => ?_, by rw [← hi.dfs]; cases o.dst <;> rfl, by rw [← hi.tsz]; cases o.dst <;> simp [Act.put], fun s hs => ?_, fun j hj hjl => ?_, hgL⟩
    · rw [getD_set hil] at hjl ⊢
      by_cases e : n = i
      · simp [e]
      · rw [if_neg e]
        by_cases e2 : j = i
        · rw [e2] at hn; exact hdeps n hn
        · rw [if_neg e2] at hjl; exact hi.clo j hj hjl n hn
    · rw [getD_set hil, if_neg (by omega)]; exact hi.notz j hj
    · cases hdo : o.dst with
      | none => exact hi.oth s hs
      | some t =>
        have hst : s ≠ t := fun e => hs (List.mem_filterMap.2 ⟨i, List.mem_range.2 hizl, by rw [hod, hdo, e]⟩)
        simp only [Act.put, Array.getElem?_setIfInBounds, if_neg (Ne.symm hst)]
        exact hi.oth s hs
    · by_cases e : j = i
      · subst e; exact hd'
      · rw [getD_set hil, if_neg e] at hjl
        have := hM j i k _ a w v w' hj hizl e (fun hm => by have h1 := hi.clo j hj hjl i hm; rw [getD_flip hil, h1] at hun; cases hun) hi.g hm' (hi.val j hj hjl)
        rw [hod] at this
        exact this

/-- The law in full: D may speak of all temporaries, M of what each operation does. -/
theorem wp_region_full {P : Program} {ops : Array Oper} {Q : Exit → Act → World → Prop} {id : Nat} {a0 : Act} {w0 : World} (z : Nat) (hm : P.follows .mixedOrders = true) (hform : formOk ops z a0.tmps.size = true)
    (G : Nat → (Nat → Bool) → Act → World → Prop) (D : Nat → Act → World → Prop) (M : Nat → Act → Value → World → World → Prop) (hM : ∀ i j k L a w v w', i < z → j < z → i ≠ j → j ∉ depsOf ops i → G k L a w → M j a v w w' → D i a w → D i (a.put (dstAt ops j) v) w') (hG : G 0 (fun _ => false) a0 w0.drew)
    (hstep : ∀ i o, ops[i]? = some o → i < z → ∀ k L a w, k < z → G k L a w → L i = false → a.defers = a0.defers → a.tmps.size = a0.tmps.size → (∀ t, t ∉ dsts ops z → a.tmps[t]? = a0.tmps[t]?) →
      (∀ j ∈ depsOf ops i, D j a w) → if Region.wanted o (yielded ops a.tmps) = true then o.wp P a w (fun a' w' => ∃ v, a' = a.put o.dst v ∧ G (k + 1) (fun j => if j = i then true else L j) (a.put o.dst v) w' ∧ M i a v w w' ∧ D i (a.put o.dst v) w') Q else G (k + 1) (fun j => if j = i then true else L j) (a.put o.dst undef) w ∧ M i a undef w w ∧ D i (a.put o.dst undef) w)
    (hlast : ∀ w a L, G z L a w → a.tmps.size = a0.tmps.size → (∀ i, i < z → D i a w) → wpList P ops Q (ops.toList.drop z) (puts a0 ((dsts ops z).map fun t => (t, a.tmps.getD t undef))) w) :
    (Code.region id ops true).wp P Q a0 w0 := by
  have hf := FormIs.of hform
  have hG' : G 0 (fun j => (Array.replicate ops.size false).getD j false) a0 w0.drew := by
    have e : (fun j => (Array.replicate ops.size false).getD j false) = fun _ => false := funext fun j => by
      rw [Array.getD_eq_getD_getElem?]
      by_cases h : j < ops.size
      · simp [h]
      · simp [h]
    rw [e]; exact hG
  refine wp_region_any hm (wpAny_gen hf G D M hM hstep hlast ops.size _ 0 a0 _ (by simp) ⟨by simp, by simp, fun i hi h => ?_, fun i hi => ?_, rfl, rfl, fun _ _ => rfl, fun i hi h => ?_, hG'⟩)
  · have := hf.size
    simp [Array.getD_eq_getD_getElem?, show i < ops.size by omega] at h
  · rw [Array.getD_eq_getD_getElem?]
    by_cases h : i < ops.size
    · simp [h]
    · simp [h]
  · have := hf.size
    simp [Array.getD_eq_getD_getElem?, show i < ops.size by omega] at h
/-- The same where no operation below z is guarded. -/
theorem wp_region_gen {P : Program} {ops : Array Oper} {Q : Exit → Act → World → Prop} {id : Nat} {a0 : Act} {w0 : World} (z : Nat) (hm : P.follows .mixedOrders = true) (hform : (formOk ops z a0.tmps.size && plainOk ops z) = true)
    (G : Nat → Act → World → Prop) (D : Nat → Act → World → Prop) (M : Nat → Act → Value → World → World → Prop) (hM : ∀ i j k a w v w', i < z → j < z → i ≠ j → j ∉ depsOf ops i → G k a w → M j a v w w' → D i a w → D i (a.put (dstAt ops j) v) w') (hG : G 0 a0 w0.drew)
    (hstep : ∀ i o, ops[i]? = some o → i < z → ∀ k a w, k < z → G k a w → a.defers = a0.defers → a.tmps.size = a0.tmps.size → (∀ t, t ∉ dsts ops z → a.tmps[t]? = a0.tmps[t]?) →
      (∀ j ∈ depsOf ops i, D j a w) → o.wp P a w (fun a' w' => ∃ v, a' = a.put o.dst v ∧ G (k + 1) (a.put o.dst v) w' ∧ M i a v w w' ∧ D i (a.put o.dst v) w') Q)
    (hlast : ∀ w a, G z a w → a.tmps.size = a0.tmps.size → (∀ i, i < z → D i a w) → wpList P ops Q (ops.toList.drop z) (puts a0 ((dsts ops z).map fun t => (t, a.tmps.getD t undef))) w) :
    (Code.region id ops true).wp P Q a0 w0 := by
  obtain ⟨hf, hpl⟩ := Bool.and_eq_true_iff.1 hform
  refine wp_region_full z hm hf (fun k _ a w => G k a w) D M (fun i j k _ a w v w' => hM i j k a w v w') hG (fun i o ho hi k _ a w hk hg _ h1 h2 h3 h4 => ?_) (fun w a _ => hlast w a)
  rw [if_pos (by simp [Region.wanted, plainOk.guard hpl hi ho])]
  exact hstep i o ho hi k a w hk hg h1 h2 h3 h4

/-- The law. -/
theorem wp_region_inv {P : Program} {ops : Array Oper} {Q : Exit → Act → World → Prop} {id : Nat} {a0 : Act} {w0 : World} (z : Nat) (hm : P.follows .mixedOrders = true) (hform : (formOk ops z a0.tmps.size && plainOk ops z) = true) (hall : (List.range z).all (fun i => (dstAt ops i).isSome) = true)
    (G : Nat → World → Prop) (D : Nat → Value → World → Prop) (M : World → World → Prop) (hM : ∀ i v w w', M w w' → D i v w → D i v w') (hG : G 0 w0.drew)
    (hstep : ∀ i o t, ops[i]? = some o → o.dst = some t → i < z → ∀ k a w, k < z → G k w → a.defers = a0.defers → a.tmps.size = a0.tmps.size → (∀ t, t ∉ dsts ops z → a.tmps[t]? = a0.tmps[t]?) →
      (∀ j ∈ depsOf ops i, ∀ t, dstAt ops j = some t → D j (a.tmps.getD t undef) w) → o.wp P a w (fun a' w' => ∃ v, a' = a.put (some t) v ∧ G (k + 1) w' ∧ M w w' ∧ D i v w') Q)
    (hlast : ∀ w (f : Tmp → Value), G z w → (∀ i t, i < z → dstAt ops i = some t → D i (f t) w) → wpList P ops Q (ops.toList.drop z) (puts a0 ((dsts ops z).map fun t => (t, f t))) w) :
    (Code.region id ops true).wp P Q a0 w0 := by
  have hf := FormIs.of (Bool.and_eq_true_iff.1 hform).1
  refine wp_region_gen z hm hform (fun k _ w => G k w) (fun i a w => ∀ t, dstAt ops i = some t → D i (a.tmps.getD t undef) w) (fun _ _ _ w w' => M w w') (fun i j _ a w v w' hi hj hij _ _ hmm hd t ht => ?_) hG (fun i o ho hi k a w hk hg h1 h2 h3 h4 => ?_) (fun w a hg _ hd => hlast w (fun t => a.tmps.getD t undef) hg (fun i t hi ht => hd i hi t ht))
  · have e : ((a.put (dstAt ops j) v).tmps.getD t undef) = a.tmps.getD t undef := by
      cases hdj : dstAt ops j with
      | none => rfl
      | some s =>
        have hst : s ≠ t := fun e => (hf.dst i t hi ht).2 j hj (Ne.symm hij) (e ▸ hdj)
        simp [Act.put, Array.getD_eq_getD_getElem?, hst]
    rw [e]
    exact hM _ _ _ _ hmm (hd t ht)
  · have hdi : dstAt ops i = o.dst := by simp [dstAt, ho]
    obtain ⟨t, ht⟩ : ∃ t, o.dst = some t := by
      have := List.all_eq_true.1 hall i (List.mem_range.2 hi)
      rw [hdi] at this
      exact Option.isSome_iff_exists.1 this
    refine Oper.wp_mono ?_ (hstep i o t ho ht hi k a w hk hg h1 h2 h3 (fun j hj t ht => h4 j hj t ht))
    rintro a' w' ⟨v, rfl, hg', hm', hd'⟩
    refine ⟨v, by rw [ht], hg', hm', fun s hs => ?_⟩
    rw [hdi, ht] at hs
    obtain rfl := Option.some.inj hs
    have hta := (hf.dst i t hi (by rw [hdi, ht])).1
    have e : ((a.put o.dst v).tmps.getD t undef) = v := by rw [ht]; simp [Act.put, Array.getD_eq_getD_getElem?, h2, hta]
    rw [e]; exact hd'
theorem put_same {a : Act} {t : Tmp} (v : Value) (h : t < a.tmps.size) : (a.put (some t) v).tmps.getD t undef = v := by simp [Act.put, Array.getD_eq_getD_getElem?, h]
theorem put_other {a : Act} {s t : Tmp} (v : Value) (h : s ≠ t) : (a.put (some s) v).tmps.getD t undef = a.tmps.getD t undef := by simp [Act.put, Array.getD_eq_getD_getElem?, h]
theorem put_at {a : Act} {d : Option Tmp} {t : Tmp} (v : Value) (h : d ≠ some t) : (a.put d v).tmps.getD t undef = a.tmps.getD t undef := by
  cases d with
  | none => rfl
  | some s => exact put_other v (fun e => h (by rw [e]))
theorem tmp_of {a : Act} {t : Tmp} {v : Value} (h : a.tmps[t]? = some v) : a.tmps.getD t undef = v := by rw [Array.getD_eq_getD_getElem?, h]; rfl
theorem wp_via {P : Program} {o : Oper} {a : Act} {w : World} {K : Act → World → Prop} {Q : Exit → Act → World → Prop} (h : ∀ K' : Act → World → Prop, (∀ a w, K a w → K' a w) → o.wp P a w K' Q) : o.wp P a w K Q := h K fun _ _ h => h
/-- What the operations leave, as a list. -/
def DL (ds : List (Value → World → Prop)) (i : Nat) (v : Value) (w : World) : Prop := (ds.getD i fun _ _ => True) v w
/-- It stays where M leads. -/
def Stays (M : World → World → Prop) (d : Value → World → Prop) : Prop := ∀ v w w', M w w' → d v w → d v w'
theorem DL.keep {M : World → World → Prop} {ds : List (Value → World → Prop)} (h : ∀ d ∈ ds, Stays M d) (i : Nat) (v : Value) (w w' : World) (hm : M w w') (hd : DL ds i v w) : DL ds i v w' := by
  unfold DL at *
  rw [List.getD_eq_getElem?_getD] at *
  by_cases hi : i < ds.length
  · rw [List.getElem?_eq_getElem hi] at *
    exact h _ (List.getElem_mem hi) v w w' hm hd
  · rw [List.getElem?_eq_none (by omega)]; trivial
end Go.Proofs.YtgobnlgmbplggaaGreatDoor

/- What the operations of a region with literals leave: rows, pointers, numbers. -/
namespace Go.Proofs.YtgobnlgmbplggaaGreatDoor
open Go.RowKit

/-- A row of numbers, of strings. -/
def PRow (σ : St) (zs : List Int) (v : Value) (w : World) : Prop := ∃ b, v = .slice (some ⟨b, 0, none⟩) zs.length zs.length ∧ b ≠ σ.b ∧ w.heap[b]? = some (.cells (zs.map (Value.int .i64)).toArray 3 (0, 0))
def PStrs (σ : St) (ss : List ByteArray) (v : Value) (w : World) : Prop := ∃ b, v = .slice (some ⟨b, 0, none⟩) ss.length ss.length ∧ b ≠ σ.b ∧ w.heap[b]? = some (.cells (ss.map Value.string).toArray 9 (0, 0))
def PIs (u : Value) (v : Value) (_ : World) : Prop := v = u
def PNum (P : Int → Prop) (v : Value) (_ : World) : Prop := ∃ r : Int, v = .int .i64 r ∧ P r
def PBool (v : Value) (_ : World) : Prop := ∃ r : Bool, v = .bool r
def PStr (P : ByteArray → Prop) (v : Value) (_ : World) : Prop := ∃ r : ByteArray, v = .string r ∧ P r
theorem PRow.stays (σ : St) (zs : List Int) : Stays (fun w w' => But σ.b w w') (PRow σ zs) := fun _ _ _ k ⟨b, h1, h2, h3⟩ => ⟨b, h1, h2, k.heap h3 h2⟩
theorem PStrs.stays (σ : St) (zs : List ByteArray) : Stays (fun w w' => But σ.b w w') (PStrs σ zs) := fun _ _ _ k ⟨b, h1, h2, h3⟩ => ⟨b, h1, h2, k.heap h3 h2⟩
theorem PIs.stays (σ : St) (u : Value) : Stays (fun w w' => But σ.b w w') (PIs u) := fun _ _ _ _ h => h
theorem PNum.stays (σ : St) (P : Int → Prop) : Stays (fun w w' => But σ.b w w') (PNum P) := fun _ _ _ _ h => h
theorem PBool.stays (σ : St) : Stays (fun w w' => But σ.b w w') PBool := fun _ _ _ _ h => h
theorem PStr.stays (σ : St) (P : ByteArray → Prop) : Stays (fun w w' => But σ.b w w') (PStr P) := fun _ _ _ _ h => h
/-- A new block. -/
def PNew (σ : St) (B : Nat) (t : TypeId) (zs : Array Value) (v : Value) (w : World) : Prop := ∃ b, v = .pointer (some ⟨b, 0, none⟩) ∧ B ≤ b ∧ b ≠ σ.b ∧ w.heap[b]? = some (.cells zs t (0, 0))
theorem PNew.stays (σ : St) (B : Nat) (t : TypeId) (zs : Array Value) : Stays (fun w w' => But σ.b w w') (PNew σ B t zs) := fun _ _ _ k ⟨b, h1, h2, h3, h4⟩ => ⟨b, h1, h2, h3, k.heap h4 h3⟩
/-- What holds throughout such a region: the stream is where it was, and no more than s numbers an operation further. -/
def GStr (s : Nat) (σ : St) (n : Nat) (w0 : World) (k : Nat) (w : World) : Prop := ∃ m, n ≤ m ∧ m ≤ n + s * k ∧ Str σ w m ∧ But σ.b w0 w
theorem GStr.alloc {s : Nat} {σ : St} {n k m : Nat} {w0 w : World} (o : Obj) (h1 : n ≤ m) (h2 : m ≤ n + s * k) (h3 : Str σ w m) (h4 : But σ.b w0 w) : GStr s σ n w0 (k + 1) (w.alloc o) := ⟨m, h1, by rw [Nat.mul_add]; omega, h3.keep (Kept.alloc _ _ _), h4.then_alloc _⟩
theorem GStr.same {s : Nat} {σ : St} {n k m : Nat} {w0 w : World} (h1 : n ≤ m) (h2 : m ≤ n + s * k) (h3 : Str σ w m) (h4 : But σ.b w0 w) : GStr s σ n w0 (k + 1) w := ⟨m, h1, by rw [Nat.mul_add]; omega, h3, h4⟩
theorem GStr.call {s : Nat} {σ : St} {n k m m2 : Nat} {w0 w w2 : World} (h1 : n ≤ m) (h2 : m ≤ n + s * k) (h4 : But σ.b w0 w) (h5 : m ≤ m2) (h6 : m2 ≤ m + s) (h7 : Str σ w2 m2) (h8 : But σ.b w w2) : GStr s σ n w0 (k + 1) w2 := ⟨m2, by omega, by rw [Nat.mul_add]; omega, h7, h4.trans h8⟩
end Go.Proofs.YtgobnlgmbplggaaGreatDoor

/- What the operations of a region that draws its order leave, where nothing that was there changes. -/
namespace Go.Proofs.YtgobnlgmbplggaaGreatDoor
open Go.RowKit

/-- The value is this one. -/
def QIs (u : Value) (v : Value) (_ : World) : Prop := v = u
theorem QIs.stays (u : Value) : Stays All (QIs u) := fun _ _ _ _ h => h
/-- A row of the call's own reads so. -/
def QAcc {α : Type} (R : Rel α) (sz : Nat) (T : TypeId) (B : Nat) (xs : List α) (v : Value) (w : World) : Prop := ∃ p c, v = .slice p xs.length c ∧ Acc R sz T (fun _ => False) B w (.slice p xs.length c) xs
theorem QAcc.stays {α : Type} {R : Rel α} (ok : R.Ok) (sz : Nat) (T : TypeId) (B : Nat) (xs : List α) : Stays All (QAcc R sz T B xs) := fun _ _ _ k ⟨p, c, h1, h2⟩ => ⟨p, c, h1, h2.keepAll ok k⟩
/-- A slice of one element that was written out. -/
def QRow (cs : Array Value) (T : TypeId) (v : Value) (w : World) : Prop := ∃ b, v = .slice (some ⟨b, 0, none⟩) 1 1 ∧ w.heap[b]? = some (.cells cs T (0, 0))
theorem QRow.stays (cs : Array Value) (T : TypeId) : Stays All (QRow cs T) := fun _ _ _ k ⟨b, h1, h2⟩ => ⟨b, h1, k.heap h2 trivial⟩
end Go.Proofs.YtgobnlgmbplggaaGreatDoor

/- What stays, with the count of what was drawn; append of a row of numbers to a slice of one. No program in sight. -/
namespace Go.Proofs.YtgobnlgmbplggaaGreatDoor
open Go.RowKit Go.Sort

/-- Nothing that was there has changed, and no draw was taken back. -/
def AllD (w w' : World) : Prop := All w w' ∧ w.drawn ≤ w'.drawn
theorem AllD.refl (w : World) : AllD w w := ⟨Kept.refl _ _, Nat.le_refl _⟩
theorem AllD.trans {a b c : World} (h : AllD a b) (k : AllD b c) : AllD a c := ⟨h.1.trans k.1, Nat.le_trans h.2 k.2⟩
theorem AllD.then_drewN {a w : World} (h : AllD a w) (n : Nat) : AllD a (w.drewN n) := ⟨h.1.then_drewN n, Nat.le_trans h.2 (Nat.le_add_right _ _)⟩
theorem AllD.then_drew {a w : World} (h : AllD a w) : AllD a w.drew := ⟨h.1.then_drew, Nat.le_trans h.2 (Nat.le_add_right _ _)⟩
theorem AllD.then_alloc {a w : World} (h : AllD a w) (o : Obj) : AllD a (w.alloc o) := ⟨h.1.then_alloc o, h.2⟩
end Go.Proofs.YtgobnlgmbplggaaGreatDoor

/- cmp.Compare and cmp.Or of numbers. -/
namespace Go.Proofs.YtgobnlgmbplggaaGreatDoor
open Go.RowKit

theorem cmpN_lt {a b : Int} (h : a < b) : cmpN a b = -1 := by unfold cmpN; rw [if_pos h]
theorem cmpN_gt {a b : Int} (h : b < a) : cmpN a b = 1 := by unfold cmpN; rw [if_neg (by omega), if_pos h]
theorem cmpN_eq {a b : Int} (h : a = b) : cmpN a b = 0 := by unfold cmpN; rw [if_neg (by omega), if_neg (by omega)]
/-- The first that is not zero. -/
def orL : List Int → Int
  | [] => 0
  | x :: l => if x ≠ 0 then x else orL l
set_option maxRecDepth 100000 in
set_option maxHeartbeats 3200000 in
theorem orI_any (a : Option Addr) (len cap : Nat) (xs : List Int) (w : World) (hs : Sl RInt 1 (fun _ => True) w a len xs) (hl : len ≤ 1000000) :
    Calls Tryz.prog 157 #[.slice a len cap] w fun e w' => e = .returned (.int .i64 (orL xs)) ∧ w = w' := by
  have Hlen := Lib.hid hs.len
  obtain ⟨r, hr⟩ : ∃ r, r = orL xs := ⟨_, rfl⟩
  have HR := Lib.hid hr
  rw [← hr]
  clear hr
  go_enter Tryz.func157, Tryz.ntmps157
  go_wp2_with fail
  go_loopw [8] (fun i wr => ∃ k : Nat, k ≤ len ∧ i = .int .i64 k ∧ Hid (r = orL (xs.drop k)) ∧ wr = w) (fun i _ => len - (intOf i).toNat)
  case atStart => exact ⟨0, Nat.zero_le _, rfl, HR, rfl⟩
  case round =>
    obtain ⟨k, hk, rfl, HK, rfl⟩ := hrel
    by_cases hlt : k < len
    · obtain ⟨b, o, rfl, -, hc⟩ := hs.ints (by omega)
      have h0 := hc k hlt
      obtain ⟨x, hx⟩ : ∃ x, xs[k]? = some x := ⟨_, List.getElem?_eq_getElem (by have := Hlen.out; omega)⟩
      have hd := drop_at hx
      rw [List.getD_eq_getElem?_getD, hx] at h0
      simp only [Option.getD_some] at h0
      have hdk : decide ((k : Int) < (len : Int)) = true := by simp; omega
      have f1 : (0 : Int) ≤ (k : Int) := by omega
      have f2 : (k : Int) < (len : Int) := by omega
      by_cases hz : x = 0
      · have hne : (x != 0) = false := by simpa using hz
        have HN := Lib.hid (show r = orL (xs.drop (k + 1)) from by rw [HK.out, hd, orL, if_neg (by simp [hz])])
        clear hd hc hx hz
        go_wp2_with fail
        go_roundw
        case rel => exact ⟨k + 1, by omega, by go_num, HN, by trivial⟩
        case measure => simp [intOf]; omega
      · have hne : (x != 0) = true := by simpa using hz
        have HN := Lib.hid (show r = x from by rw [HK.out, hd, orL, if_pos hz])
        clear hd hc hx hz
        go_wp2_with fail
        go_ret
        exact ⟨by rw [HN.out]; rfl, rfl⟩
    · have hdk : decide ((k : Int) < (len : Int)) = false := by simp; omega
      have HN := Lib.hid (show r = 0 from by rw [HK.out, List.drop_of_length_le (by have := Hlen.out; omega)]; rfl)
      go_wp2_with fail
      go_ret
      exact ⟨by rw [HN.out]; rfl, rfl⟩

theorem isNaNN_any (a : Int) (w : World) : Calls Tryz.prog 241 #[.int .i64 a] w fun e w' => e = .returned (.bool false) ∧ w = w' := by
  have hn : (a != a) = false := by simp
  go_enter Tryz.func241, Tryz.ntmps241
  go_wp2_with fail
  go_ret
  exact ⟨rfl, rfl⟩
theorem compareN_any (a b : Int) (w : World) : Calls Tryz.prog 184 #[.int .i64 a, .int .i64 b] w fun e w' => e = .returned (.int .i64 (cmpN a b)) ∧ w = w' := by
  rcases Int.lt_trichotomy a b with h | h | h
  · have HF := Lib.hid (cmpN_lt h)
    have d1 : decide (a < b) = true := by simpa using h
    go_enter Tryz.func184, Tryz.ntmps184
    go_wp2_with (go_at_call 241; refine (isNaNN_any _ _).mono ?_; rintro e w' ⟨rfl, rfl⟩)
    go_ret
    exact ⟨ret_int' HF.out.symm, rfl⟩
  · have HF := Lib.hid (cmpN_eq h)
    subst h
    have d1 : decide (a < a) = false := by simp
    go_enter Tryz.func184, Tryz.ntmps184
    go_wp2_with (go_at_call 241; refine (isNaNN_any _ _).mono ?_; rintro e w' ⟨rfl, rfl⟩)
    go_ret
    exact ⟨ret_int' HF.out.symm, rfl⟩
  · have HF := Lib.hid (cmpN_gt h)
    have d1 : decide (a < b) = false := by simp; omega
    have d2 : decide (b < a) = true := by simpa using h
    go_enter Tryz.func184, Tryz.ntmps184
    go_wp2_with (go_at_call 241; refine (isNaNN_any _ _).mono ?_; rintro e w' ⟨rfl, rfl⟩)
    go_ret
    exact ⟨ret_int' HF.out.symm, rfl⟩

theorem QIs.staysD (u : Value) : Stays AllD (QIs u) := fun _ _ _ _ h => h
theorem QRow.staysD (cs : Array Value) (T : TypeId) : Stays AllD (QRow cs T) := fun _ _ _ k h => QRow.stays cs T _ _ _ k.1 h
/-- A row of some elements, new. -/
def QRowN (cs : Array Value) (T : TypeId) (n : Nat) (v : Value) (w : World) : Prop := ∃ b, v = .slice (some ⟨b, 0, none⟩) n n ∧ w.heap[b]? = some (.cells cs T (0, 0))
theorem QRowN.staysD (cs : Array Value) (T : TypeId) (n : Nat) : Stays AllD (QRowN cs T n) := fun _ _ _ k ⟨b, h1, h2⟩ => ⟨b, h1, k.1.heap h2 trivial⟩


theorem strCmp_any (a b : ByteArray) (w : World) : Calls Tryz.prog 158 #[.string a, .string b] w fun e w' => e = .returned (.int .i64 (cmpB a b)) ∧ AllD w w' := by
  refine (Tryz.strings_Compare a b w).mono ?_
  rintro e w' ⟨rfl, rfl⟩
  exact ⟨rfl, AllD.refl _⟩
end Go.Proofs.YtgobnlgmbplggaaGreatDoor
