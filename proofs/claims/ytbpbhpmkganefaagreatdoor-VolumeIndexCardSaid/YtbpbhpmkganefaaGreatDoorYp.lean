/- The entries that an index is gathered of. No program in sight. -/
import Derived.Test.YtbpbhpmkganefaaGreatDoorYg
import Derived.Test.YtbpbhpmkganefaaGreatDoorFn
import Derived.Test.YtbpbhpmkganefaaGreatDoorJb
import Derived.Test.YtbpbhpmkganefaaGreatDoorYf
import Derived.Test.YtbpbhpmkganefaaGreatDoorZi
namespace Go.Proofs.YtbpbhpmkganefaaGreatDoor
open Go.RowKit

/-- The credits of a paper. -/
def crOf (xs : List Fin4) (p : ByteArray) : List Cred := match finOf xs p with | some f => f.credits | none => []
theorem crOf_some {xs : List Fin4} {p : ByteArray} {f : Fin4} (h : finOf xs p = some f) : crOf xs p = f.credits := by rw [crOf, h]
/-- The entries of one paper that begins at page lo. -/
def entOf (lo : Int) (cs : List Cred) : List Ent := cs.map fun c => ((sortB c.name, c.key), lo)
theorem entOf_succ {lo : Int} {cs : List Cred} {j : Nat} {c : Cred} (h : cs[j]? = some c) : entOf lo (cs.take (j + 1)) = entOf lo (cs.take j) ++ [((sortB c.name, c.key), lo)] := by
  obtain ⟨hj, rfl⟩ := List.getElem?_eq_some_iff.1 h
  unfold entOf
  rw [List.take_succ_eq_append_getElem hj, List.map_append]
  rfl
/-- The entries of all papers. -/
def ents (xs : List Fin4) (ls : List Leaf3) : List Ent := ls.flatMap fun l => entOf l.lo (crOf xs l.paper)
theorem ents_succ {xs : List Fin4} {ls : List Leaf3} {k : Nat} {l : Leaf3} (h : ls[k]? = some l) : ents xs (ls.take (k + 1)) = ents xs (ls.take k) ++ entOf l.lo (crOf xs l.paper) := by
  obtain ⟨hk, rfl⟩ := List.getElem?_eq_some_iff.1 h
  unfold ents
  rw [List.take_succ_eq_append_getElem hk, List.flatMap_append, List.flatMap_singleton]

theorem credsF_names : ∀ {l before : List Cred}, credsF before l = 0 → ∀ c ∈ l, isKeyB c.key = true ∧ lineB c.name 100 = true
  | [], _, _, c, hc => by cases hc
  | y :: l, before, h, c, hc => by
    rw [credsF_cons] at h
    cases h1 : isKeyB y.key with
    | false => rw [if_pos h1] at h; omega
    | true =>
      rw [if_neg (by simp [h1])] at h
      cases h2 : before.any (hasKey y.key) with
      | true => rw [if_pos h2] at h; omega
      | false =>
        rw [if_neg (by simp [h2])] at h
        cases h3 : lineB y.name 100 with
        | false => rw [if_pos h3] at h; omega
        | true =>
          rw [if_neg (by simp [h3])] at h
          rcases List.mem_cons.1 hc with rfl | hc
          · exact ⟨h1, h3⟩
          · exact credsF_names h c hc
/-- Credits without error. -/
structure CredOk (l : List Cred) : Prop where
  ne : l.length ≠ 0
  len : l.length ≤ 20
  names : ∀ c ∈ l, isKeyB c.key = true ∧ lineB c.name 100 = true
theorem creditsF_ok {l : List Cred} (h : creditsF l = 0) : CredOk l := by
  unfold creditsF at h
  by_cases h1 : l.length = 0
  · rw [if_pos h1] at h; omega
  · rw [if_neg h1] at h
    by_cases h2 : 20 < l.length
    · rw [if_pos h2] at h; omega
    · rw [if_neg h2] at h
      exact ⟨h1, by omega, credsF_names h⟩
theorem finF_creds {p : Option ByteArray} {x : Fin4} (h : finF p x = 0) : creditsF x.credits = 0 := by
  unfold finF at h
  split at h
  · omega
  · split at h
    · omega
    · split at h
      · omega
      · split at h
        · omega
        · exact h
theorem finsF_creds : ∀ {xs : List Fin4} {p : Option ByteArray}, finsF p xs = 0 → ∀ x ∈ xs, CredOk x.credits
  | [], _, _, x, hx => by cases hx
  | y :: l, p, h, x, hx => by
    rw [finsF_cons] at h
    by_cases hf : finF p y = 0
    · rw [if_neg (by simp [hf])] at h
      rcases List.mem_cons.1 hx with rfl | hx
      · exact creditsF_ok (finF_creds hf)
      · exact finsF_creds h x hx
    · rw [if_pos hf] at h
      exact absurd h hf
theorem finalsF_creds {xs : List Fin4} (h : finalsF xs = 0) : ∀ x ∈ xs, CredOk x.credits := by
  unfold finalsF at h
  split at h
  · omega
  · exact finsF_creds h
theorem crOf_len {xs : List Fin4} (h : finalsF xs = 0) (p : ByteArray) : (crOf xs p).length ≤ 20 := by
  unfold crOf
  cases hf : finOf xs p with
  | none => simp
  | some f => exact (finalsF_creds h f (List.mem_of_find?_eq_some hf)).len
theorem ents_len {xs : List Fin4} (h : finalsF xs = 0) : ∀ ls : List Leaf3, (ents xs ls).length ≤ 20 * ls.length
  | [] => Nat.zero_le _
  | l :: ls => by
    have h1 := ents_len h ls
    have h2 := crOf_len h l.paper
    have e : (ents xs (l :: ls)).length = (crOf xs l.paper).length + (ents xs ls).length := by simp [ents, entOf]
    rw [e, List.length_cons]
    omega
theorem sortB_small {s : ByteArray} (h : lineB s 100 = true) : (sortB s).size ≤ 20404 := by
  have h0 := lineB_small h
  have h1 := famB_size h0
  have h2 := othB_size h0
  unfold sortB
  split
  · rw [ByteArray.size_append, ByteArray.size_append]
    have : (⟨#[44, 32]⟩ : ByteArray).size = 2 := rfl
    omega
  · omega
theorem key_small {s : ByteArray} (h : isKeyB s = true) : s.size ≤ 40 := by
  rcases Classical.em (isKey s) with hk | hk
  · exact hk.2.2
  · rw [isKeyB_false hk] at h; cases h
theorem cred_okK {cs : List Cred} (h : CredOk cs) {c : Cred} (hc : c ∈ cs) : okK (sortB c.name, c.key) := by
  obtain ⟨h1, h2⟩ := h.names c hc
  have h3 := key_small h1
  have h4 := sortB_small h2
  exact ⟨by dsimp only; omega, by dsimp only; omega⟩
theorem ents_okK {xs : List Fin4} {ls : List Leaf3} (h : finalsF xs = 0) : ∀ e ∈ ents xs ls, okK e.1 := by
  intro e he
  unfold ents at he
  obtain ⟨l, -, he⟩ := List.mem_flatMap.1 he
  unfold entOf at he
  obtain ⟨c, hc, rfl⟩ := List.mem_map.1 he
  unfold crOf at hc
  split at hc
  · rename_i f hf
    exact cred_okK (finalsF_creds h f (List.mem_of_find?_eq_some hf)) hc
  · cases hc
/-- What is known of leaf k of a right volume. -/
structure LeafOk (xs : List Fin4) (l : Leaf3) (f : Fin4) : Prop where
  fin : finOf xs l.paper = some f
  at' : xs[cntOf xs l.paper]? = some f
  find : findG (isPaper l.paper) 0 xs = (cntOf xs l.paper : Int)
  creds : CredOk f.credits
  cr : crOf xs l.paper = f.credits
theorem findG_cnt' {xs : List Fin4} {p : ByteArray} {f : Fin4} (hr : Rises xs) (h : finOf xs p = some f) : findG (isPaper p) 0 xs = (cntOf xs p : Int) := by
  obtain ⟨i, h1, h2⟩ := findG_some h
  obtain ⟨h3, h4⟩ := finOf_cnt hr h
  have hne : ¬ i < cntOf xs p := fun hlt => by
    have := hr.lt h2 h3 hlt
    rw [bl_irrefl] at this
    cases this
  have hne2 : ¬ cntOf xs p < i := fun hlt => by
    have := hr.lt h3 h2 hlt
    rw [bl_irrefl] at this
    cases this
  rw [h1, show i = cntOf xs p by omega]
theorem LeafOk.of {first : Int} {right : Bool} {cs : List Chap} {xs : List Fin4} (hok : VolOk first right cs xs) {k : Nat} {l : Leaf3} (h : (lvs first right cs xs)[k]? = some l) : ∃ f, LeafOk xs l f := by
  have hm : l.paper ∈ allP cs := by
    rw [← leavesF_papers xs right first (allP cs)]
    exact List.mem_map.2 ⟨l, List.mem_of_getElem? h, rfl⟩
  obtain ⟨f, hf⟩ := Option.isSome_iff_exists.1 (chapsF_found hok.chap _ hm)
  have hr := (finalsF_rises hok.fin).1
  exact ⟨f, hf, (finOf_cnt hr hf).1, findG_cnt' hr hf, finalsF_creds hok.fin f (List.mem_of_find?_eq_some hf), crOf_some hf⟩
theorem lvs_len {first : Int} {right : Bool} {cs : List Chap} {xs : List Fin4} (hok : VolOk first right cs xs) : (lvs first right cs xs).length ≤ 400 := by
  have h1 := allP_small hok.chap
  have h2 : xs.length ≤ 400 := by
    have h := hok.fin
    unfold finalsF at h
    split at h
    · omega
    · omega
  rw [leavesF_length]
  omega
end Go.Proofs.YtbpbhpmkganefaaGreatDoor

/- An index under way, in memory: the entries are one row of the call's own, and each has a row of pages. No program in sight. -/
namespace Go.Proofs.YtbpbhpmkganefaaGreatDoor
open Go.RowKit Go.Sort

/-- Rows of two types lie in two blocks. -/
theorem Acc.apartT {α β : Type} {R : Rel α} {R' : Rel β} {sz sz' : Nat} {T T' : TypeId} {F F' : Nat → Prop} {B B' : Nat} {w : World} {v v' : Value} {xs : List α} {ys : List β} (h1 : Acc R sz T F B w v xs) (h2 : Acc R' sz' T' F' B' w v' ys) (hT : T ≠ T') : ∀ k, v.ownBlock = some k → v'.ownBlock ≠ some k := by
  intro k hk hk'
  obtain ⟨cells, ho, _⟩ := h2
  rcases ho.2 with ⟨hv, _⟩ | ⟨g, cap, cur, hv, _, hgg, _⟩
  · rw [hv] at hk'; cases hk'
  · rw [hv] at hk'
    obtain rfl := Option.some.inj hk'
    exact h1.notType hgg hT _ hk rfl
theorem kept_of_grown {w w' : World} {o : Option Nat} (hg : w.grownBy w' o) : Kept (fun k => o ≠ some k) w w' := ⟨hg.os, hg.tape, hg.output, hg.size, fun k hk hf => hg.block k hk (fun e => hf e.symm)⟩
/-- One cell of one element is written over. -/
theorem Acc.setOne {α : Type} {R : Rel α} {enc : α → List Value} {S : α → Prop} {sz : Nat} {T : TypeId} {F : Nat → Prop} {B : Nat} {w : World} {xs : List α} (hR : Flat R enc S sz) {g n cap : Nat} (h : Acc R sz T F B w (.slice (some ⟨g, 0, none⟩) n cap) xs) {i : Nat} {x y : α} (hx : xs[i]? = some x) (hy : S y) {t : Nat} {u : Value} (ht : t < sz) (he : enc y = (enc x).set t u) :
    Acc R sz T F B (w.setCell ⟨g, i * sz + t, none⟩ u) (.slice (some ⟨g, 0, none⟩) n cap) (xs.set i y) := by
  obtain ⟨a, c, hv, -⟩ := h.form
  have hn : n = xs.length := by cases hv; rfl
  subst hn
  obtain ⟨hi, hxe⟩ := List.getElem?_eq_some_iff.1 hx
  obtain ⟨g', cap', cur, hv', hb, hg, h1, h2, h3⟩ := h.flatRow (by omega)
  cases hv'
  have hle : (i + 1) * sz ≤ cap * sz := Nat.mul_le_mul_right _ (by omega)
  rw [Nat.add_mul] at hle
  obtain ⟨cur', e1, e2, e3, e4, e5⟩ := heap_setCellsF [u] w (i * sz + t) cur hg (by simp; omega)
  have hw : w.setCells g (i * sz + t) [u] = w.setCell ⟨g, i * sz + t, none⟩ u := rfl
  rw [hw] at e1
  have hu : cur'[i * sz + t]? = some u := by simpa using e5 0 u rfl
  have hoth : ∀ j, j ≠ i * sz + t → cur'[j]? = cur[j]? := fun j hj => by
    rcases Nat.lt_or_gt_of_ne hj with h8 | h8
    · exact e3 j h8
    · exact e4 j (by simp; omega)
  refine Acc.flatCells hR e1 hb (by simp) h1 h2 (by omega) (fun j z hz => ?_)
  by_cases hj : j = i
  · subst hj
    rw [List.getElem?_set_self hi] at hz
    injection hz with hz
    subst hz
    obtain ⟨-, hx2⟩ := h.flatAt hR hg hx
    refine ⟨hy, fun s us hs => ?_⟩
    rw [he] at hs
    by_cases hst : s = t
    · subst hst
      rw [List.getElem?_set_self (by rw [hR.len]; exact ht)] at hs
      rw [hu]; exact hs
    · rw [List.getElem?_set_ne (fun e => hst e.symm)] at hs
      rw [hoth _ (by omega)]
      exact hx2 s us hs
  · rw [List.getElem?_set_ne (fun e => hj e.symm)] at hz
    obtain ⟨hS, hx2⟩ := h.flatAt hR hg hz
    refine ⟨hS, fun s us hs => ?_⟩
    have hsl : s < sz := by have := (List.getElem?_eq_some_iff.1 hs).1; have := hR.len z; omega
    have h7 := hx2 s us hs
    rcases Nat.lt_or_gt_of_ne hj with h8 | h8
    · have h9 : (j + 1) * sz ≤ i * sz := Nat.mul_le_mul_right _ h8
      rw [Nat.add_mul] at h9
      rw [hoth _ (by omega)]; exact h7
    · have h9 : (i + 1) * sz ≤ j * sz := Nat.mul_le_mul_right _ h8
      rw [Nat.add_mul] at h9
      rw [hoth _ (by omega)]; exact h7

theorem keys_len {es : List Ent} {out : List Lst3} (hnd : (out.map kOf).Nodup) (hm : ∀ x ∈ out, pagesAt es (kOf x) ≠ []) : out.length ≤ es.length := by
  have h1 := hnd.length_le_of_subset (l₂ := es.map (·.1)) (fun q hq => by
    obtain ⟨x, hx, rfl⟩ := List.mem_map.1 hq
    obtain ⟨z, l, hz⟩ := List.exists_cons_of_ne_nil (hm x hx)
    exact List.mem_map.2 ⟨_, pagesAt_mem (z := z) (by rw [hz]; simp), rfl⟩)
  simpa using h1
abbrev rowV (x : Lst3) : Value := .slice x.pa x.pl x.pc
/-- Each key once, each with its pages. -/
structure IdxM (es : List Ent) (w : World) (B : Nat) (v : Value) (out : List Lst3) : Prop where
  acc : Acc RLst 3 48 (fun _ => False) B w v out
  nd : (out.map kOf).Nodup
  mem : ∀ q, (∃ x ∈ out, kOf x = q) ↔ pagesAt es q ≠ []
  row : ∀ x ∈ out, Acc RInt 1 3 (fun _ => False) B w (rowV x) (pagesAt es (kOf x))
  sep : ∀ x ∈ out, ∀ y ∈ out, kOf x ≠ kOf y → ∀ k, (rowV x).ownBlock = some k → (rowV y).ownBlock ≠ some k
/-- The same, where the key q may still have no page; its entry is entry k. -/
structure IdxR (es : List Ent) (q : K2) (k : Nat) (w : World) (B : Nat) (v : Value) (out : List Lst3) : Prop where
  acc : Acc RLst 3 48 (fun _ => False) B w v out
  nd : (out.map kOf).Nodup
  mem : ∀ p, (∃ x ∈ out, kOf x = p) ↔ (pagesAt es p ≠ [] ∨ p = q)
  row : ∀ x ∈ out, Acc RInt 1 3 (fun _ => False) B w (rowV x) (pagesAt es (kOf x))
  sep : ∀ x ∈ out, ∀ y ∈ out, kOf x ≠ kOf y → ∀ k, (rowV x).ownBlock = some k → (rowV y).ownBlock ≠ some k
  at' : ∃ x, out[k]? = some x ∧ kOf x = q
theorem nd_ne {out : List Lst3} (h : (out.map kOf).Nodup) {i j : Nat} {a b : Lst3} (ha : out[i]? = some a) (hb : out[j]? = some b) (hij : i ≠ j) : kOf a ≠ kOf b := fun e => by
  have h1 : (out.map kOf)[i]? = some (kOf a) := by rw [List.getElem?_map, ha]; rfl
  have h2 : (out.map kOf)[j]? = some (kOf b) := by rw [List.getElem?_map, hb]; rfl
  have hi := (List.getElem?_eq_some_iff.1 h1).1
  exact hij ((List.getElem?_inj hi h).1 (by rw [h1, h2, e]))
section
variable {es : List Ent} {q : K2} {k : Nat} {w w' : World} {B : Nat} {v : Value} {out : List Lst3}
theorem IdxM.nil (w : World) (B : Nat) : IdxM [] w B (.slice none 0 0) [] :=
  ⟨Acc.nil _ _ _ _ _ _, List.nodup_nil, fun q => by simp [pagesAt_nil], fun x hx => absurd hx (by simp), fun x hx => absurd hx (by simp)⟩
theorem IdxM.apart (h : IdxM es w B v out) : ∀ x ∈ out, ∀ i, (rowV x).ownBlock = some i → v.ownBlock ≠ some i := fun x hx i hi => (h.row x hx).apartT h.acc (by decide) i hi
theorem IdxR.apart (h : IdxR es q k w B v out) : ∀ x ∈ out, ∀ i, (rowV x).ownBlock = some i → v.ownBlock ≠ some i := fun x hx i hi => (h.row x hx).apartT h.acc (by decide) i hi
theorem IdxM.keep (h : IdxM es w B v out) (k : All w w') : IdxM es w' B v out :=
  ⟨h.acc.keepAll RLst.ok k, h.nd, h.mem, fun x hx => (h.row x hx).keepAll RInt.ok k, h.sep⟩
theorem IdxR.keep (h : IdxR es q k w B v out) (kk : All w w') : IdxR es q k w' B v out :=
  ⟨h.acc.keepAll RLst.ok kk, h.nd, h.mem, fun x hx => (h.row x hx).keepAll RInt.ok kk, h.sep, h.at'⟩
theorem IdxM.found (h : IdxM es w B v out) {x : Lst3} (hx : out[k]? = some x) (hq : kOf x = q) : IdxR es q k w B v out :=
  ⟨h.acc, h.nd, fun p => by
    rw [h.mem p]
    refine ⟨Or.inl, fun hp => ?_⟩
    rcases hp with hp | rfl
    · exact hp
    · exact (h.mem p).1 ⟨x, List.mem_of_getElem? hx, hq⟩, h.row, h.sep, ⟨x, hx, hq⟩⟩
/-- A new key: its entry is put at the end. -/
theorem IdxM.fresh (h : IdxM es w B v out) (hno : ∀ x ∈ out, kOf x ≠ q) {y : Lst3} (hy : kOf y = q) (hyr : rowV y = .slice none 0 0) {v' : Value} (hacc : Acc RLst 3 48 (fun _ => False) B w' v' (out ++ [y])) (hg : w.grownBy w' v.ownBlock) :
    IdxR es q out.length w' B v' (out ++ [y]) := by
  have hpn : pagesAt es q = [] := by
    apply Classical.byContradiction
    intro hn
    obtain ⟨x, hx, e⟩ := (h.mem q).2 hn
    exact hno x hx e
  have hrow : ∀ x ∈ out, Acc RInt 1 3 (fun _ => False) B w' (rowV x) (pagesAt es (kOf x)) := fun x hx => (h.row x hx).flatKeep flatInt (kept_of_grown hg) (fun i hi => h.apart x hx i hi)
  refine ⟨hacc, ?_, fun p => ?_, fun x hx => ?_, fun a ha b hb hab i hi => ?_, ⟨y, by simp, hy⟩⟩
  · rw [List.map_append, List.map_cons, List.map_nil, List.nodup_append]
    refine ⟨h.nd, by simp, fun a ha b hb => ?_⟩
    obtain ⟨x, hx, rfl⟩ := List.mem_map.1 ha
    obtain rfl : b = kOf y := by simpa using hb
    rw [hy]; exact hno x hx
  · constructor
    · rintro ⟨x, hx, e⟩
      rcases List.mem_append.1 hx with hx | hx
      · exact Or.inl ((h.mem p).1 ⟨x, hx, e⟩)
      · obtain rfl : x = y := by simpa using hx
        exact Or.inr (e.symm.trans hy)
    · rintro (hp | rfl)
      · obtain ⟨x, hx, e⟩ := (h.mem p).2 hp
        exact ⟨x, List.mem_append_left _ hx, e⟩
      · exact ⟨y, by simp, hy⟩
  · rcases List.mem_append.1 hx with hx | hx
    · exact hrow x hx
    · obtain rfl : x = y := by simpa using hx
      rw [hyr, hy, hpn]
      exact Acc.nil _ _ _ _ _ _
  · rcases List.mem_append.1 ha with ha | ha
    · rcases List.mem_append.1 hb with hb | hb
      · exact h.sep a ha b hb hab i hi
      · obtain rfl : b = y := by simpa using hb
        rw [hyr]; simp [Value.ownBlock]
    · obtain rfl : a = y := by simpa using ha
      rw [hyr] at hi
      simp [Value.ownBlock] at hi
abbrev withRow (x : Lst3) (p : Option Addr) (n c : Nat) : Lst3 := ⟨x.name, x.key, p, n, c, x.hn, x.hk⟩
/-- One page more at entry k. -/
theorem IdxR.step (h : IdxR es q k w B v out) {x : Lst3} (hx : out[k]? = some x) (hq : kOf x = q) {z : Int} {p' : Option Addr} {n' c' : Nat} (hacc : Acc RInt 1 3 (fun _ => False) B w' (.slice p' n' c') (pagesAt es q ++ [z]))
    (hg : w.grownBy w' (rowV x).ownBlock) (hat : (Value.slice p' n' c').ownBlock = (rowV x).ownBlock ∨ (Value.slice p' n' c').ownBlock = some w.heap.size) {g n cap : Nat} (hv : v = .slice (some ⟨g, 0, none⟩) n cap) :
    IdxM (es ++ [(q, z)]) (w'.setCell ⟨g, k * 3 + 2, none⟩ (.slice p' n' c')) B v (out.set k (withRow x p' n' c')) ∧ But g w' (w'.setCell ⟨g, k * 3 + 2, none⟩ (.slice p' n' c')) := by
  subst hv
  have hmx := List.mem_of_getElem? hx
  obtain ⟨hk, hxe⟩ := List.getElem?_eq_some_iff.1 hx
  have hbut : But g w' (w'.setCell ⟨g, k * 3 + 2, none⟩ (.slice p' n' c')) := Kept.setCell _ _ _ (by simp)
  have hkg := kept_of_grown hg
  have hacc1 := h.acc.flatKeep flatLst hkg (fun i hi e => h.apart x hmx i e hi)
  have hacc2 := hacc1.setOne flatLst (i := k) (y := withRow x p' n' c') (t := 2) (u := .slice p' n' c') hx trivial (by decide) rfl
  have hmap : (out.set k (withRow x p' n' c')).map kOf = out.map kOf := by
    rw [List.map_set]
    have e : kOf (withRow x p' n' c') = (out.map kOf)[k]'(by simpa using hk) := by simp [hxe]
    rw [e, List.set_getElem_self]
  have hrowlt : ∀ y ∈ out, ∀ i, (rowV y).ownBlock = some i → i ≠ g := fun y hy i hi e => h.apart y hy i hi (by rw [e]; rfl)
  have hnew : (Value.slice p' n' c').ownBlock ≠ some g := by
    have hglt : g < w.heap.size := (h.acc.lt g rfl).2
    intro e
    rcases hat with h1 | h1
    · rw [h1] at e; exact hrowlt x hmx g e rfl
    · rw [h1] at e
      injection e with e
      omega
  have hcase : ∀ y ∈ out.set k (withRow x p' n' c'), (y = withRow x p' n' c') ∨ (y ∈ out ∧ kOf y ≠ q) := fun y hy => by
    obtain ⟨j, hj, rfl⟩ := List.getElem_of_mem hy
    rw [List.length_set] at hj
    by_cases hjk : j = k
    · subst hjk; exact Or.inl (by simp)
    · have hy' : (out.set k (withRow x p' n' c'))[j]'(by simpa using hj) = out[j] := by rw [List.getElem_set_ne (fun e => hjk e.symm)]
      rw [hy']
      refine Or.inr ⟨List.getElem_mem _, ?_⟩
      rw [← hq]
      exact nd_ne h.nd (List.getElem?_eq_getElem hj) hx hjk
  refine ⟨⟨hacc2, by rw [hmap]; exact h.nd, fun p => ?_, fun y hy => ?_, fun a ha b hb hab i hi => ?_⟩, hbut⟩
  · have e1 : (∃ x_1 ∈ out.set k (withRow x p' n' c'), kOf x_1 = p) ↔ (∃ x_1 ∈ out, kOf x_1 = p) := by rw [← List.mem_map, hmap, List.mem_map]
    rw [e1, h.mem p, pagesAt_snoc]
    by_cases hp : p = q
    · subst hp; rw [updK_same]; simp
    · rw [updK_other hp]; simp [hp]
  · rcases hcase y hy with rfl | ⟨hy, hyq⟩
    · rw [show kOf (withRow x p' n' c') = q from hq, pagesAt_snoc, updK_same]
      exact hacc.flatKeep flatInt hbut (fun i hi e => hnew (by rw [← e]; exact hi))
    · rw [pagesAt_snoc, updK_other hyq]
      have h1 := (h.row y hy).flatKeep flatInt hkg (fun i hi e => h.sep y hy x hmx (by rw [hq]; exact hyq) i hi e)
      exact h1.flatKeep flatInt hbut (hrowlt y hy)
  · rcases hcase a ha with rfl | ⟨ha, haq⟩
    · rcases hcase b hb with rfl | ⟨hb, hbq⟩
      · exact absurd rfl hab
      · intro hbi
        have hbl := ((h.row b hb).lt i hbi).2
        rcases hat with h1 | h1
        · rw [h1] at hi
          exact h.sep b hb x hmx (by rw [hq]; exact hbq) i hbi hi
        · rw [h1] at hi
          injection hi with hi
          omega
    · rcases hcase b hb with rfl | ⟨hb, hbq⟩
      · intro hbi
        have hal := ((h.row a ha).lt i hi).2
        rcases hat with h1 | h1
        · rw [h1] at hbi
          exact h.sep a ha x hmx (by rw [hq]; exact haq) i hi hbi
        · rw [h1] at hbi
          injection hbi with hbi
          omega
      · exact h.sep a ha b hb hab i hi
/-- A whole index in memory. -/
def IdxOut (es : List Ent) (w : World) (p : Option Addr) (n : Nat) (out : List Lst3) : Prop := Sl RLst 3 (fun _ => True) w p n out ∧ IsIdx es out ∧ RowsAt es w out
theorem IdxOut.keep {p : Option Addr} {n : Nat} (h : IdxOut es w p n out) (k : All w w') : IdxOut es w' p n out := ⟨h.1.keep RLst.ok k, h.2.1, h.2.2.keep k⟩
theorem sl_of_acc {xs : List Int} {p : Option Addr} {n c : Nat} (h : Acc RInt 1 3 (fun _ => False) B w (.slice p n c) xs) : n = xs.length ∧ Sl RInt 1 (fun _ => True) w p n xs := by
  obtain ⟨a, c', hv, hs⟩ := h.sl RInt.ok (by decide) (G := fun _ => True) (fun _ h => h.elim) (fun _ _ => trivial)
  cases hv
  exact ⟨rfl, hs⟩
/-- Sorted, it is whole. -/
theorem IdxM.done (h : IdxM es w B v out) {qs : List Lst3} (hp : qs.Perm out) (hs : qs.Pairwise fun x y => cfL x y ≤ 0) (ha : Acc RLst 3 48 (fun _ => False) B w' v qs) (hg : w.grownBy w' v.ownBlock) :
    ∃ p c, v = .slice p qs.length c ∧ IdxOut es w' p qs.length qs := by
  obtain ⟨a, c', hv, hsl⟩ := ha.sl RLst.ok (by decide) (G := fun _ => True) (fun _ h => h.elim) (fun _ _ => trivial)
  have hnd : (qs.map kOf).Nodup := (hp.map kOf).nodup_iff.2 h.nd
  refine ⟨a, c', hv, hsl, ⟨rise_of_sorted hs hnd, fun q => ?_⟩, fun x hx => ?_⟩
  · rw [← h.mem q]
    exact ⟨fun ⟨x, hx, e⟩ => ⟨x, hp.mem_iff.1 hx, e⟩, fun ⟨x, hx, e⟩ => ⟨x, hp.mem_iff.2 hx, e⟩⟩
  · have hx' := hp.mem_iff.1 hx
    have h1 := (h.row x hx').flatKeep flatInt (kept_of_grown hg) (fun i hi => h.apart x hx' i hi)
    exact sl_of_acc h1
end
end Go.Proofs.YtbpbhpmkganefaaGreatDoor
