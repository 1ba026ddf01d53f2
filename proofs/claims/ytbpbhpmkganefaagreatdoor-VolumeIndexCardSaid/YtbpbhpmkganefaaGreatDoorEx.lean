/- What stays, with the count of what was drawn; append of a row of numbers to a slice of one. No program in sight. -/
import Derived.Test.YtbpbhpmkganefaaGreatDoorZd
import Derived.Sort.Grow
import Derived.Laws.AppendOwn
namespace Go.Proofs.YtbpbhpmkganefaaGreatDoor
open Go.RowKit Go.Sort

/-- Nothing that was there has changed, and no draw was taken back. -/
def AllD (w w' : World) : Prop := All w w' ∧ w.drawn ≤ w'.drawn
theorem AllD.refl (w : World) : AllD w w := ⟨Kept.refl _ _, Nat.le_refl _⟩
theorem AllD.trans {a b c : World} (h : AllD a b) (k : AllD b c) : AllD a c := ⟨h.1.trans k.1, Nat.le_trans h.2 k.2⟩
theorem AllD.then_drewN {a w : World} (h : AllD a w) (n : Nat) : AllD a (w.drewN n) := ⟨h.1.then_drewN n, Nat.le_trans h.2 (Nat.le_add_right _ _)⟩
theorem AllD.then_drew {a w : World} (h : AllD a w) : AllD a w.drew := ⟨h.1.then_drew, Nat.le_trans h.2 (Nat.le_add_right _ _)⟩
theorem AllD.then_alloc {a w : World} (h : AllD a w) (o : Obj) : AllD a (w.alloc o) := ⟨h.1.then_alloc o, h.2⟩
theorem AllD.grow {w w' : World} (h : AllD w w') : ∃ (q : Nat) (os : Array Obj), w' = Go.Sort.grow (w.drewN q) os := by
  obtain ⟨⟨h1, h2, h3, h4, h5⟩, h6⟩ := h
  refine ⟨w'.drawn - w.drawn, w'.heap.extract w.heap.size w'.heap.size, ?_⟩
  have e1 : w'.heap = w.heap ++ w'.heap.extract w.heap.size w'.heap.size := by
    apply Array.ext_getElem?
    intro i
    by_cases hi : i < w.heap.size
    · rw [Array.getElem?_append_left hi]
      exact h5 i hi trivial
    · rw [Array.getElem?_append_right (by omega), Array.getElem?_extract]
      by_cases hi2 : i < w'.heap.size
      · rw [if_pos (by omega)]
        congr 1
        omega
      · rw [if_neg (by omega), Array.getElem?_eq_none (by omega)]
  have e2 : w'.drawn = w.drawn + (w'.drawn - w.drawn) := by omega
  cases w' with
  | mk heap tape drawn os output =>
    cases w with
    | mk heap0 tape0 drawn0 os0 output0 =>
      simp only at *
      subst h1 h2 h3
      simp only [Go.Sort.grow, World.drewN, World.mk.injEq, true_and, and_true]
      exact ⟨e1, e2⟩

/-- append of all numbers of a slice to a slice of one number. -/
theorem wp_appendFresh {P : Program} (w : World) {ops : Array Oper} {rest : List Oper} {o : Oper} {a : Act} {Q : Exit → Act → World → Prop} (hgd : o.guard = none) (s x : Operand) (t : TypeId)
    (ho : o.op = .call { callee := .builtin .append, args := #[s, x], argTypes := #[t, t] })
    (e : TypeId) (bytes : Nat) (ht : P.underlying t = some (.slice e)) (hi : (P.info? e).map (fun i => (i.zero, i.size, i.bytes)) = some (some (.int .i64 0), 1, bytes))
    (b : Nat) (n : Int) (hs : a.eval s = .slice (some ⟨b, 0, none⟩) 1 1) (hc : w.cell? ⟨b, 0, none⟩ = some (.int .i64 n)) (p : Option Addr) (len cap : Nat) (ys : List Int) (hx : a.eval x = .slice p len cap) (hsl : Sl RInt 1 (fun _ => True) w p len ys)
    (hb1 : len ≤ 1000000) (hb2 : bytes ≤ 100000)
    (h : ∀ p' c' w', Sl RInt 1 (fun _ => True) w' p' (len + 1) (n :: ys) → AllD w w' → wpList P ops Q rest (a.put o.dst (.slice p' (len + 1) c')) w') :
    wpList P ops Q (o :: rest) a w := by
  obtain ⟨i0, hi, hz0, hz1, hz2⟩ := info_parts hi
  refine wpList_plain hgd fun K' hK => ?_
  unfold Oper.wp execOp
  simp only [ho, resolve, invoke, builtin, Sem.run_bind, Sem.run_pure, Result.andThen_ok, List.map_toArray, List.map_cons, List.map_nil, hs, hx]
  rcases Nat.eq_zero_or_pos len with h0 | h0
  · subst h0
    have hy : ys = [] := List.eq_nil_of_length_eq_zero hsl.len
    subst hy
    have hr : (Builtin.append_ #[t, t] o.type #[.slice (some ⟨b, 0, none⟩) 1 1, .slice p 0 cap]).run P w = .ok (.slice (some ⟨b, 0, none⟩) 1 1) w := by
      cases p <;> simp [Builtin.append_, run_underlying ht, sizeOf, typeInfo, hi, Builtin.lenOf, Builtin.firstCells, loadCells, loadCellsFrom, storeCells]
    rw [hr]
    refine hK _ _ (h _ _ _ ?_ (AllD.refl w))
    exact Sl.of_ints rfl trivial (fun i hi => by
      have : i = 0 := by omega
      subst this
      simpa using hc)
  · obtain ⟨b2, off, rfl, -, hcells⟩ := hsl.ints h0
    have hl := hsl.len
    have hnews : ∀ j u, (ys.map (Value.int .i64))[j]? = some u → w.cell? ((⟨b2, off, none⟩ : Addr).add j) = some u := by
      intro j u hj
      rw [List.getElem?_map] at hj
      cases hjy : ys[j]? with
      | none => rw [hjy] at hj; cases hj
      | some y =>
        rw [hjy] at hj
        have hlt : j < len := by have := (List.getElem?_eq_some_iff.1 hjy).1; omega
        have := hcells j hlt
        rw [List.getD_eq_getElem?_getD, hjy] at this
        injection hj with hj
        rw [← hj]
        by_cases hj0 : j = 0
        · subst hj0; simpa [Addr.add] using this
        · simpa [Addr.add, hj0] using this
    have holds : ∀ j u, [Value.int .i64 n][j]? = some u → w.cell? ((⟨b, 0, none⟩ : Addr).add j) = some u := by
      intro j u hj
      cases j with
      | zero => simp at hj; subst hj; exact hc
      | succ j => simp at hj
    have hr := run_append_grow (P := P) w t o.type e i0 (.int .i64 0) ht hi hz0 ⟨b, 0, none⟩ 1 1 [.int .i64 n] (by simp [hz1]) holds ⟨b2, off, none⟩ len cap (ys.map (Value.int .i64)) (by simp [hz1, hl]) hnews (by omega) (by omega) (growslice_fits (by omega) (by
      rw [hz2]
      calc (1 + len) * bytes ≤ 1000001 * 100000 := Nat.mul_le_mul (by omega) hb2
        _ ≤ 140737488355328 := by decide))
    rw [hr]
    have hblk := heap_alloc_new w.drew (.cells ([Value.int .i64 n].toArray ++ (ys.map (Value.int .i64)).toArray ++ Builtin.zeroCells (Value.int .i64 0).cells (grownCap w (1 + len) 1 e - (1 + len))) e)
    rw [Nat.add_comm 1 len] at hblk ⊢
    refine hK _ _ (h _ _ _ ?_ ((AllD.refl w).then_drew.then_alloc _))
    refine Sl.of_ints (by simp [hl]) trivial (fun i hi => cell_at hblk ?_)
    have hi' : i < (n :: ys).length := by simp [hl]; omega
    have e1 : ([Value.int .i64 n].toArray ++ (ys.map (Value.int .i64)).toArray) = ((n :: ys).map (Value.int .i64)).toArray := by simp
    rw [e1, Array.getElem?_append_left (by simpa using hi')]
    simp only [Nat.zero_add, List.getElem?_toArray, List.getElem?_map, List.getElem?_eq_getElem hi', Option.map_some]
    rw [List.getD_eq_getElem?_getD, List.getElem?_eq_getElem hi']
    rfl
/-- An append takes no draw back. -/
theorem append_drawn {P : Program} {B : Nat} (w : World) (t ty e : TypeId) (i : TypeInfo) (z : Value) (size bytes : Nat) (ht : P.underlying t = some (.slice e)) (hi : P.info? e = some i) (hz : i.zero = some z) (hsize : i.size = size) (hby : i.bytes = bytes)
    (v : Value) (n : Nat) (xs : List Value) (hown : w.ownsRow B e size v n xs) (ad : Addr) (c : Nat) (news : List Value) (hl : news.length = size) (hnews : ∀ j u, news[j]? = some u → w.cell? (ad.add j) = some u) (h1 : ∀ u ∈ news, u.oneCell' = true)
    (h63 : n + 1 ≤ maxLen) (hbytes : (n + 1) * bytes ≤ 140737488355328) {v' : Value} {w' : World} (hr : (Builtin.append_ #[t, t] ty #[v, .slice (some ad) 1 c]).run P w = .ok v' w') : w.drawn ≤ w'.drawn := by
  subst hsize
  subst hby
  have hsmall : n + 1 ≤ 9223372036854775807 := by simp only [maxLen] at h63; omega
  rcases hown.2 with ⟨rfl, rfl⟩ | ⟨g, cap, cur, rfl, hbg, hg, hnc, hcm, hcs, htake⟩
  · have h := run_append_nil (P := P) w t ty e i z ht hi hz ad 1 c news (by omega) hnews (by omega) (by omega) (by simp only [Nat.zero_add] at hbytes; omega)
    rw [h] at hr
    injection hr with _ hr
    rw [← hr]
    exact Nat.le_add_right _ _
  · by_cases hroom : n + 1 ≤ cap
    · have hfit : n * i.size + news.length ≤ cur.size := by
        have : (n + 1) * i.size ≤ cap * i.size := Nat.mul_le_mul_right _ hroom
        rw [Nat.add_mul] at this
        omega
      have h := run_append_room (P := P) w t ty e i ht hi g n cap cur hg ad 1 c news (by omega) hnews h1 hroom hfit
      rw [h] at hr
      injection hr with _ hr
      rw [← hr]
      exact Nat.le_refl _
    · have h := run_append_grow (P := P) w t ty e i z ht hi hz ⟨g, 0, none⟩ n cap xs hown.1 (hown.cells (g := g) rfl) ad 1 c news (by omega) hnews (by omega) (by omega) (growslice_fits (by omega) hbytes)
      rw [h] at hr
      injection hr with _ hr
      rw [← hr]
      exact Nat.le_add_right _ _
/-- append of one element that was written out just before; no draw is taken back. -/
theorem wp_append1D {α : Type} {R : Rel α} (ok : R.Ok) {P : Program} (w : World) {ops : Array Oper} {rest : List Oper} {o : Oper} {a : Act} {Q : Exit → Act → World → Prop} (hgd : o.guard = none) (s x : Operand) (t : TypeId)
    (ho : o.op = .call { callee := .builtin .append, args := #[s, x], argTypes := #[t, t] })
    (B : Nat) (e : TypeId) (z : Value) (size bytes : Nat) (ht : P.underlying t = some (.slice e)) (hi : (P.info? e).map (fun i => (i.zero, i.size, i.bytes)) = some (some z, size, bytes))
    (hzs : z.cells.size = size) (hsz : 0 < size) (F : Nat → Prop)
    (v : Value) (xs : List α) (hs : a.eval s = v) (hacc : Acc R size e F B w v xs)
    (ad : Addr) (c : Nat) (vs : List Value) (hx : a.eval x = .slice (some ad) 1 c) (hl : vs.length = size) (hnews : ∀ j u, vs[j]? = some u → w.cell? (ad.add j) = some u) (h1 : ∀ u ∈ vs, u.oneCell' = true)
    (y : α) (hy : R (fun k => F k ∧ v.ownBlock ≠ some k) w vs y)
    (hb1 : xs.length + 1 ≤ 1000000000) (hb2 : bytes ≤ 100000) (hbase : B ≤ w.heap.size)
    (h : ∀ p' c' w', Acc R size e F B w' (.slice p' (xs.length + 1) c') (xs ++ [y]) → w.grownBy w' v.ownBlock → w.drawn ≤ w'.drawn → wpList P ops Q rest (a.put o.dst (.slice p' (xs.length + 1) c')) w') :
    wpList P ops Q (o :: rest) a w := by
  obtain ⟨i0, hi, hz0, hz1, hz2⟩ := info_parts hi
  obtain ⟨cells, hown, he⟩ := hacc
  have hbytes : (xs.length + 1) * bytes ≤ 140737488355328 := by
    calc (xs.length + 1) * bytes ≤ 1000000000 * 100000 := Nat.mul_le_mul hb1 hb2
      _ ≤ 140737488355328 := by decide
  have h63 : xs.length + 1 ≤ maxLen := by unfold maxLen; omega
  refine wpList_plain hgd fun K hK => ?_
  obtain ⟨v', w', hr, h2, h3, h4, h5⟩ := run_append_own_at (P := P) w B t o.type e i0 z size bytes ht hi hz0 hz1 hz2 hzs hsz v xs.length cells hown ad 1 c vs (by omega) hnews h1 h63 hbytes hbase
  have hd := append_drawn w t o.type e i0 z size bytes ht hi hz0 hz1 hz2 v xs.length cells hown ad c vs hl hnews h1 h63 hbytes hr
  have hp := Acc.push ok hl hown he hy h2 h3 h5
  obtain ⟨p', c', rfl, _⟩ := hp.form
  unfold Oper.wp execOp
  simp only [ho, resolve, invoke, builtin, Sem.run_bind, Sem.run_pure, Result.andThen_ok, List.map_toArray, List.map_cons, List.map_nil, hs, hx, hr]
  simp only [List.length_append, List.length_cons, List.length_nil, Nat.zero_add] at *
  exact hK _ _ (h p' c' w' hp h3 hd)
end Go.Proofs.YtbpbhpmkganefaaGreatDoor
