/- Regions that draw their order, in a heap of well-typed blocks: stream calls, new blocks, one append, stores. -/
import Derived.Test.YtgobnlgmbplggaaGreatDoorP0
import Derived.Test.YtgobnlgmbplggaaGreatDoorZl
import Derived.Test.YtgobnlgmbplggaaGreatDoorQ0
import Derived.Test.YtgobnlgmbplggaaGreatDoorSr
import Derived.Test.YtgobnlgmbplggaaGreatDoorSd
namespace Go.Proofs.YtgobnlgmbplggaaGreatDoor
open Go.RowKit

/-- One more of a kind. -/
def up (N : Nat → Nat) (k : Nat) : Nat → Nat := fun x => if x = k then N x + 1 else N x
theorem up_le (N : Nat → Nat) (k x : Nat) : N x ≤ up N k x := by unfold up; split <;> omega
theorem up_at (N : Nat → Nat) (k : Nat) : up N k k = N k + 1 := by unfold up; rw [if_pos rfl]
theorem up_ne {N : Nat → Nat} {k x : Nat} (h : x ≠ k) : up N k x = N x := by unfold up; rw [if_neg h]
theorem up_lt (N : Nat → Nat) (k x : Nat) : up N k x ≤ N x + 1 := by unfold up; split <;> omega
/-- What holds while a region's operations come up: ia appends to what il loads. -/
structure RT (Θ : Kinds) (σ : St) (B : Nat) (N Ns : Nat → Nat) (X : World → Prop) (w1 : World) (n : Nat) (ia il k : Nat) (L : Nat → Bool) (w : World) : Prop where
  st : ∃ m, Str σ w m ∧ n ≤ m ∧ m ≤ n + 10 * k
  kp : Kept (fun b => b < B ∧ b ≠ σ.b) w1 w
  lt : B ≤ w.heap.size
  ty : if L ia = true then Goes Θ B N w1 Ns w else Goes Θ B N w1 N w
  cl : L ia = true → L il = true
  ex : X w
section
variable {Θ : Kinds} {σ : St} {B : Nat} {N Ns : Nat → Nat} {X : World → Prop} {w1 w w' : World} {n ia il k i m : Nat} {L : Nat → Bool}
def plus (L : Nat → Bool) (i : Nat) : Nat → Bool := fun j => if j = i then true else L j
theorem plus_ne (h : i ≠ ia) : plus L i ia = L ia := by unfold plus; rw [if_neg (fun e => h e.symm)]
theorem plus_up {j : Nat} (h : L j = true) : plus L i j = true := by unfold plus; split <;> simp_all
theorem RT.goes (h : RT Θ σ B N Ns X w1 n ia il k L w) (hN : ∀ x, N x ≤ Ns x) : Goes Θ B N w1 Ns w := by
  have := h.ty
  split at this
  · exact this
  · exact this.trans (Goes.up hN)
theorem RT.old (h : RT Θ σ B N Ns X w1 n ia il k L w) (hi : L ia = false) : Goes Θ B N w1 N w := by
  have := h.ty
  rw [hi] at this
  simpa using this
theorem RT.notyet (h : RT Θ σ B N Ns X w1 n ia il k L w) (hi : L il = false) : L ia = false := by
  cases h' : L ia with
  | false => rfl
  | true => have := h.cl h'; rw [hi] at this; cases this
theorem RT.move (h : RT Θ σ B N Ns X w1 n ia il k L w) (hne : i ≠ ia) (hs : ∃ m, Str σ w' m ∧ n ≤ m ∧ m ≤ n + 10 * (k + 1)) (hk : Kept (fun b => b ≠ σ.b) w w') (hσ : σ.b < B) (hx : X w') : RT Θ σ B N Ns X w1 n ia il (k + 1) (plus L i) w' := by
  refine ⟨hs, h.kp.trans2 hk (fun _ _ hf => hf.2), Nat.le_trans h.lt hk.size, ?_, fun hi => plus_up (h.cl (by rw [plus_ne hne] at hi; exact hi)), hx⟩
  rw [plus_ne hne]
  have ht := h.ty
  split
  · rename_i e; rw [if_pos e] at ht; exact ht.trans (Goes.but hk hσ)
  · rename_i e; rw [if_neg e] at ht; exact ht.trans (Goes.but hk hσ)
theorem RT.same (h : RT Θ σ B N Ns X w1 n ia il k L w) (hne : i ≠ ia) : RT Θ σ B N Ns X w1 n ia il (k + 1) (plus L i) w := by
  obtain ⟨m, h1, h2, h3⟩ := h.st
  refine ⟨⟨m, h1, h2, by omega⟩, h.kp, h.lt, ?_, fun hi => plus_up (h.cl (by rw [plus_ne hne] at hi; exact hi)), h.ex⟩
  rw [plus_ne hne]; exact h.ty
theorem RT.all (h : RT Θ σ B N Ns X w1 n ia il k L w) (hne : i ≠ ia) (hk : All w w') (hσ : σ.b < B) (hx : X w') : RT Θ σ B N Ns X w1 n ia il (k + 1) (plus L i) w' := by
  obtain ⟨m, h1, h2, h3⟩ := h.st
  exact h.move hne ⟨m, h1.keep hk, h2, by omega⟩ hk.all hσ hx
theorem RT.call (h : RT Θ σ B N Ns X w1 n ia il k L w) (hne : i ≠ ia) (h2 : n ≤ m) (h3 : m ≤ n + 10 * k) {m' c : Nat} (h4 : m ≤ m') (h5 : m' ≤ m + c) (hc : c ≤ 10) (hs : Str σ w' m') (hk : But σ.b w w') (hσ : σ.b < B) (hx : X w') : RT Θ σ B N Ns X w1 n ia il (k + 1) (plus L i) w' :=
  h.move hne ⟨m', hs, by omega, by omega⟩ hk hσ hx
/-- The append. -/
theorem RT.app (h : RT Θ σ B N Ns X w1 n ia il k L w) (hil : L il = true) (hN : ∀ x, N x ≤ Ns x) {kd n0 m0 : Nat} {a0 : Option Addr} {c0 : Nat} {v' : Value} (hv : Gd Θ B Ns w (.sl kd) (.slice a0 n0 c0)) (hA : AppTB Θ B Ns Ns w kd a0 c0 n0 m0 v' w') (hσ : σ.b < B) (hx : X w') : RT Θ σ B N Ns X w1 n ia il (k + 1) (plus L ia) w' := by
  obtain ⟨m, h1, h2, h3⟩ := h.st
  have hk := hA.low hv
  refine ⟨⟨m, h1.kept hk (fun j hj => by omega), h2, by omega⟩, h.kp.trans2 hk (fun _ _ hf => hf.1), Nat.le_trans h.lt hk.size, ?_, fun _ => plus_up hil, hx⟩
  rw [show plus L ia ia = true from by unfold plus; rw [if_pos rfl]]
  exact (h.goes hN).trans hA.goes
/-- A store, where nothing is appended. -/
theorem RT.put (h : RT Θ σ B N Ns X w1 n ia il k L w) (hne : i ≠ ia) (hNN : N = Ns) {b kd m0 j : Nat} {f : Fd} {u : Value} (hsp : Θ.Sep kd) (hb : TB Θ B Ns w b kd m0) (hf : (Θ.fds kd)[j % Θ.sz kd]? = some f) (hu : Gd Θ B Ns w f u) (hx : X (w.setCell ⟨b, j, none⟩ u)) (hσ : σ.b < B) : RT Θ σ B N Ns X w1 n ia il (k + 1) (plus L i) (w.setCell ⟨b, j, none⟩ u) := by
  subst hNN
  obtain ⟨m, h1, h2, h3⟩ := h.st
  have hl := hb.low
  have hk : Kept (fun x => x < B) w (w.setCell ⟨b, j, none⟩ u) := Kept.setCell _ _ _ (by dsimp only; omega)
  refine ⟨⟨m, h1.kept hk (fun j hj => by omega), h2, by omega⟩, h.kp.trans2 hk (fun _ _ hf => hf.1), Nat.le_trans h.lt hk.size, ?_, fun hi => plus_up (h.cl (by rw [plus_ne hne] at hi; exact hi)), hx⟩
  have ht : Goes Θ B N w1 N w := by have := h.ty; split at this <;> exact this
  have := ht.trans (Goes.set hsp hb hf hu)
  split <;> exact this
/-- What values are good for. -/
def PG (Θ : Kinds) (B : Nat) (Ns : Nat → Nat) (f : Fd) (v : Value) (w : World) : Prop := Gd Θ B Ns w f v
def PL (Θ : Kinds) (B : Nat) (N Ns : Nat → Nat) (k : Nat) (v : Value) (w : World) : Prop := ∃ a n c, v = .slice a n c ∧ n ≤ N k ∧ Gd Θ B Ns w (.sl k) (.slice a n c)
def PT (Θ : Kinds) (B : Nat) (Ns : Nat → Nat) (k n : Nat) (v : Value) (w : World) : Prop := ∃ g, v = .slice (some ⟨g, 0, none⟩) n n ∧ TB Θ B Ns w g k n
def PE (Θ : Kinds) (B : Nat) (Ns : Nat → Nat) (k : Nat) (v : Value) (w : World) : Prop := ∃ b i m, v = .pointer (some ⟨b, i * Θ.sz k, none⟩) ∧ i < m ∧ TB Θ B Ns w b k m
def PA (Θ : Kinds) (B : Nat) (Ns : Nat → Nat) (k : Nat) (v : Value) (w : World) : Prop := ∃ vs, v = .agg vs.toArray ∧ GdL Θ B Ns w (Θ.fds k) vs
def PR (lo hi : Int) (v : Value) (_ : World) : Prop := ∃ z : Int, v = .int .i64 z ∧ lo ≤ z ∧ z ≤ hi
def PZ (sz : Nat) (v : Value) (_ : World) : Prop := ∃ s : ByteArray, v = .string s ∧ s.size ≤ sz
theorem PG.stays (f : Fd) : Stays (fun w w' => Goes Θ B Ns w Ns w') (PG Θ B Ns f) := fun _ _ _ hg h => Gd.goes h hg
theorem PL.stays (k : Nat) : Stays (fun w w' => Goes Θ B Ns w Ns w') (PL Θ B N Ns k) := fun _ _ _ hg ⟨a, n, c, h1, h2, h3⟩ => ⟨a, n, c, h1, h2, h3.goes hg⟩
theorem PT.stays (k n : Nat) : Stays (fun w w' => Goes Θ B Ns w Ns w') (PT Θ B Ns k n) := fun _ _ _ hg ⟨g, h1, h2⟩ => ⟨g, h1, hg.tb _ _ _ h2⟩
theorem PE.stays (k : Nat) : Stays (fun w w' => Goes Θ B Ns w Ns w') (PE Θ B Ns k) := fun _ _ _ hg ⟨b, i, m, h1, h2, h3⟩ => ⟨b, i, m, h1, h2, hg.tb _ _ _ h3⟩
theorem PA.stays (k : Nat) : Stays (fun w w' => Goes Θ B Ns w Ns w') (PA Θ B Ns k) := fun _ _ _ hg ⟨vs, h1, h2⟩ => ⟨vs, h1, h2.goes hg⟩
theorem PR.stays (lo hi : Int) : Stays (fun w w' => Goes Θ B Ns w Ns w') (PR lo hi) := fun _ _ _ _ h => h
theorem PZ.stays (sz : Nat) : Stays (fun w w' => Goes Θ B Ns w Ns w') (PZ sz) := fun _ _ _ _ h => h
theorem QIs.stays' (u : Value) : Stays (fun w w' => Goes Θ B Ns w Ns w') (QIs u) := fun _ _ _ _ h => h
def PN (_ : Value) (_ : World) : Prop := True
theorem PN.stays : Stays (fun w w' => Goes Θ B Ns w Ns w') PN := fun _ _ _ _ h => h
theorem TB.gd {g kd n0 : Nat} (h : TB Θ B Ns w g kd n0) (hn : n0 ≤ Ns kd) : Gd Θ B Ns w (.sl kd) (.slice (some ⟨g, 0, none⟩) n0 n0) := Gd.of_slice hn (Nat.le_refl _) rfl h
/-- A new block written out: its elements one behind the other. -/
theorem TB.lit {kd n0 : Nat} {vs : List Value} (hB : B ≤ w.heap.size) (hp : 0 < Θ.sz kd) (hl : vs.length = n0 * Θ.sz kd) (hc : ∀ (j : Nat) (u : Value), vs[j]? = some u → ∃ f, (Θ.fds kd)[j % Θ.sz kd]? = some f ∧ Gd Θ B Ns w f u) : TB Θ B Ns (w.alloc (.cells vs.toArray (Θ.ty kd))) w.heap.size kd n0 := by
  refine TB.new (heap_alloc_new w _) hB hp (by simpa using hl) fun j u hj => ?_
  obtain ⟨f, h1, h2⟩ := hc j u (by simpa using hj)
  exact ⟨f, h1, h2.goes (Goes.all (Kept.alloc _ _ _))⟩
end
def AllG (Θ : Kinds) (B : Nat) (Ns : Nat → Nat) (w : World) (f : Fd) : List Value → Prop
  | [] => True
  | v :: vs => Gd Θ B Ns w f v ∧ AllG Θ B Ns w f vs
section
variable {Θ : Kinds} {B : Nat} {Ns N' : Nat → Nat} {w : World}
theorem AllG.at {f : Fd} : ∀ {vs : List Value}, AllG Θ B Ns w f vs → ∀ (j : Nat) (u : Value), vs[j]? = some u → Gd Θ B Ns w f u
  | [], _, j, u, h => by simp at h
  | v :: vs, h, j, u, hj => by
    cases j with
    | zero => simp at hj; subst hj; exact h.1
    | succ j => exact AllG.at h.2 j u (by simpa using hj)
/-- One element written out; some of one cell. -/
theorem TB.lit1 {kd : Nat} {vs : List Value} (hB : B ≤ w.heap.size) (hp : 0 < Θ.sz kd) (hc : GdL Θ B Ns w (Θ.fds kd) vs) : TB Θ B Ns (w.alloc (.cells vs.toArray (Θ.ty kd))) w.heap.size kd 1 := by
  obtain ⟨h1, h2⟩ := hc.at
  refine TB.lit hB hp (by rw [h1, Nat.one_mul]; rfl) fun j u hj => ?_
  obtain ⟨f, h3, h4⟩ := h2 j u hj
  exact ⟨f, by rw [Nat.mod_eq_of_lt (show j < Θ.sz kd from (List.getElem?_eq_some_iff.1 h3).1)]; exact h3, h4⟩
theorem TB.litN {kd n0 : Nat} {f : Fd} {vs : List Value} (hB : B ≤ w.heap.size) (hf : Θ.fds kd = [f]) (hl : vs.length = n0) (hc : AllG Θ B Ns w f vs) : TB Θ B Ns (w.alloc (.cells vs.toArray (Θ.ty kd))) w.heap.size kd n0 := by
  have hs : Θ.sz kd = 1 := by unfold Kinds.sz; rw [hf]; rfl
  refine TB.lit hB (by rw [hs]; decide) (by rw [hs, hl, Nat.mul_one]) fun j u hj => ⟨f, ?_, hc.at j u hj⟩
  rw [hf, hs, Nat.mod_one]; rfl
theorem TB.ldS {b k m i j o : Nat} (h : TB Θ B Ns w b k m) (hi : i < m) (hf : (Θ.fds k)[j]? = some .s) (ho : o = i * Θ.sz k + j) : ∃ s : ByteArray, w.cell? ⟨b, o, none⟩ = some (.string s) ∧ s.size ≤ Θ.smax := by
  obtain ⟨v, h1, s, rfl, h2⟩ := h.cell hi hf
  exact ⟨s, by rw [ho]; exact h1, h2⟩
theorem TB.ldL {b k m i j o k' : Nat} (h : TB Θ B Ns w b k m) (hi : i < m) (hf : (Θ.fds k)[j]? = some (.sl k')) (ho : o = i * Θ.sz k + j) : ∃ a n c, w.cell? ⟨b, o, none⟩ = some (.slice a n c) ∧ n ≤ Ns k' ∧ Gd Θ B Ns w (.sl k') (.slice a n c) := by
  obtain ⟨v, h1, h2⟩ := h.cell hi hf
  obtain ⟨a, n, cap, rfl, h3, h4, -⟩ := h2.slice
  exact ⟨a, n, cap, by rw [ho]; exact h1, h3, h2⟩
variable {P : Program}
/-- append of a row to a row. -/
theorem op_append_tt {k : Nat} {t : TypeId} (hk : KindOk P Θ k t) (hi : Θ.Sep k) (w : World) {o : Oper} {a : Act} {K : Act → World → Prop} {Q : Exit → Act → World → Prop} (s x : Operand)
    (ho : o.op = .call { callee := .builtin .append, args := #[s, x], argTypes := #[t, t] }) (a0 : Option Addr) (n cap0 : Nat) (hs : a.eval s = .slice a0 n cap0) (hv : Gd Θ B Ns w (.sl k) (.slice a0 n cap0))
    (g m c : Nat) (hx : a.eval x = .slice (some ⟨g, 0, none⟩) m c) (hg : TB Θ B Ns w g k c) (hm0 : 0 < m) (hmc : m ≤ c) (N' : Nat → Nat) (hN : ∀ x, Ns x ≤ N' x) (hNk : n + m ≤ N' k) (hb1 : N' k ≤ 1000000000) (hB : B ≤ w.heap.size)
    (h : ∀ p' c' w', AppTB Θ B Ns N' w k a0 cap0 n m (.slice p' (n + m) c') w' → K (a.put o.dst (.slice p' (n + m) c')) w') : Oper.wp P o a w K Q := by
  obtain ⟨cur, h3, h4, h5⟩ := hg.ok
  have hl : (cur.toList.take (m * Θ.sz k)).length = m * Θ.sz k := by
    have : m * Θ.sz k ≤ c * Θ.sz k := Nat.mul_le_mul_right _ hmc
    simp only [List.length_take, Array.length_toList]; omega
  obtain ⟨v', w', hr, hA⟩ := hk.append hi w B Ns o.type a0 n cap0 hv ⟨g, 0, none⟩ m c (cur.toList.take (m * Θ.sz k)) hl (fun j u hj => by
    rw [List.getElem?_take] at hj
    split at hj
    · have := cell_at (i := j) h3 (by simpa using hj)
      unfold Addr.add
      split
      · rename_i e; subst e; exact this
      · simpa using this
    · cases hj) (fun j u hj => by
    rw [List.getElem?_take] at hj
    split at hj
    · exact h5 j u (by simpa using hj)
    · cases hj) hm0 N' hN hNk hb1 hB
  unfold Oper.wp execOp
  simp only [ho, resolve, invoke, builtin, Sem.run_bind, Sem.run_pure, Result.andThen_ok, List.map_toArray, List.map_cons, List.map_nil, hs, hx, hr]
  obtain ⟨a', c', rfl⟩ := hA.form
  exact h a' c' w' hA
end
theorem wp_region_ty {P : Program} {ops : Array Oper} {Q : Exit → Act → World → Prop} {id : Nat} {a0 : Act} {w0 : World} (z : Nat) (hm : P.follows .mixedOrders = true) (hform : (formOk ops z a0.tmps.size && plainOk ops z) = true)
    (G : Nat → (Nat → Bool) → World → Prop) (D : Nat → Value → World → Prop) (M : World → World → Prop) (hM : ∀ i v w w', M w w' → D i v w → D i v w') (hG : G 0 (fun _ => false) w0.drew)
    (hstep : ∀ i o, ops[i]? = some o → i < z → ∀ k L a w, k < z → G k L w → L i = false → a.defers = a0.defers → a.tmps.size = a0.tmps.size → (∀ t, t ∉ dsts ops z → a.tmps[t]? = a0.tmps[t]?) → (∀ j ∈ depsOf ops i, L j = true) →
      (∀ j ∈ depsOf ops i, ∀ t, dstAt ops j = some t → D j (a.tmps.getD t undef) w) → o.wp P a w (fun a' w' => ∃ v, a' = a.put o.dst v ∧ G (k + 1) (plus L i) w' ∧ M w w' ∧ (o.dst ≠ none → D i v w')) Q)
    (hlast : ∀ L w (f : Tmp → Value), G z L w → (∀ i t, i < z → dstAt ops i = some t → D i (f t) w) → wpList P ops Q (ops.toList.drop z) (puts a0 ((dsts ops z).map fun t => (t, f t))) w) :
    (Code.region id ops true).wp P Q a0 w0 := by
  have hf := FormIs.of (Bool.and_eq_true_iff.1 hform).1
  have hpl := (Bool.and_eq_true_iff.1 hform).2
  refine wp_region_fullL z hm (Bool.and_eq_true_iff.1 hform).1 (fun k L _ w => G k L w) (fun i a w => ∀ t, dstAt ops i = some t → D i (a.tmps.getD t undef) w) (fun _ _ _ w w' => M w w') (fun i j _ _ a w v w' hi hj hij _ _ hmm hd t ht => ?_) hG (fun i o ho hi k L a w hk hg hL h1 h2 h3 h5 h4 => ?_) (fun w a L hg _ hd => hlast L w (fun t => a.tmps.getD t undef) hg (fun i t hi ht => hd i hi t ht))
  · have et : dstAt ops j ≠ some t := fun e => (hf.dst i t hi ht).2 j hj (Ne.symm hij) e
    rw [put_at v et]
    exact hM _ _ _ _ hmm (hd t ht)
  · rw [if_pos (by simp [Region.wanted, plainOk.guard hpl hi ho])]
    have hdi : dstAt ops i = o.dst := by simp [dstAt, ho]
    refine Oper.wp_mono ?_ (hstep i o ho hi k L a w hk hg hL h1 h2 h3 h5 (fun j hj t ht => h4 j hj t ht))
    rintro a' w' ⟨v, rfl, hg', hm', hd'⟩
    refine ⟨v, rfl, hg', hm', fun t ht => ?_⟩
    rw [hdi] at ht
    have hta' := (hf.dst i t hi (by rw [hdi, ht])).1
    have e : ((a.put o.dst v).tmps.getD t undef) = v := by rw [ht]; simp [Act.put, Array.getD_eq_getD_getElem?, h2, hta']
    rw [e]
    exact hd' (by rw [ht]; exact Option.some_ne_none _)
end Go.Proofs.YtgobnlgmbplggaaGreatDoor

/- The stream's contracts at rows that are right; someName; Terms. -/
namespace Go.Proofs.YtgobnlgmbplggaaGreatDoor
open Go.RowKit

theorem tb_nums {B : Nat} {N : Nat → Nat} {w : World} {g kd m : Nat} {lo hi : Int} (h : TB Θw B N w g kd m) (hk : Θw.fds kd = [.r lo hi]) : ∃ zs : List Int, Sl RInt 1 (fun b => B ≤ b) w (some ⟨g, 0, none⟩) m zs ∧ ∀ z ∈ zs, lo ≤ z ∧ z ≤ hi := by
  have hs : Θw.sz kd = 1 := by unfold Kinds.sz; rw [hk]; rfl
  refine Sl.ofEach h.low fun i hi' => ?_
  obtain ⟨v, h1, z, rfl, h2⟩ := h.cell hi' (j := 0) (f := .r lo hi) (by rw [hk]; rfl)
  rw [hs] at h1
  refine ⟨[.int .i64 z], z, rfl, fun j hj => ?_, rfl, h2⟩
  obtain rfl : j = 0 := by simpa using hj
  simpa using h1
theorem tb_ints {B : Nat} {N : Nat → Nat} {w : World} {g m : Nat} (h : TB Θw B N w g 9 m) : ∃ zs : List Int, Sl RInt 1 (fun b => B ≤ b) w (some ⟨g, 0, none⟩) m zs ∧ ∀ z ∈ zs, -2000000000000 ≤ z ∧ z ≤ 2000000000000 := by
  refine Sl.ofEach h.low fun i hi' => ?_
  obtain ⟨v, h1, z, rfl, h2⟩ := h.cell hi' (j := 0) (f := .i) rfl
  refine ⟨[.int .i64 z], z, rfl, fun j hj => ?_, rfl, h2⟩
  obtain rfl : j = 0 := by simpa using hj
  simpa [Kinds.sz, Θw, wFds] using h1
theorem pickR_any {σ : St} {n B : Nat} {N : Nat → Nat} {w : World} {g kd m : Nat} {lo hi : Int} (hs : Str σ w n) (hn : n ≤ 4611686018427387904) (hσ : σ.b < B) (h : TB Θw B N w g kd m) (hk : Θw.fds kd = [.r lo hi]) (hm : 0 < m) (hm2 : m ≤ 1000) :
    Calls Tryz.prog 13 #[.pointer (some ⟨σ.b, 0, none⟩), .slice (some ⟨g, 0, none⟩) m m] w (StPost σ n 1 w (IsNum fun r => lo ≤ r ∧ r ≤ hi)) := by
  obtain ⟨zs, h1, h2⟩ := tb_nums h hk
  refine (pick_any σ n _ m m zs w hs hn (h1.mono RInt.ok (fun b hb => by omega)) hm (by omega)).mono ?_
  rintro e w' ⟨v, q, rfl, ⟨r, rfl, hr⟩, h3⟩
  exact ⟨_, q, rfl, ⟨r, rfl, h2 r hr⟩, h3⟩
theorem pickI_any {σ : St} {n B : Nat} {N : Nat → Nat} {w : World} {g m : Nat} (hs : Str σ w n) (hn : n ≤ 4611686018427387904) (hσ : σ.b < B) (h : TB Θw B N w g 9 m) (hm : 0 < m) (hm2 : m ≤ 1000) :
    Calls Tryz.prog 13 #[.pointer (some ⟨σ.b, 0, none⟩), .slice (some ⟨g, 0, none⟩) m m] w (StPost σ n 1 w (IsNum fun r => -2000000000000 ≤ r ∧ r ≤ 2000000000000)) := by
  obtain ⟨zs, h1, h2⟩ := tb_ints h
  refine (pick_any σ n _ m m zs w hs hn (h1.mono RInt.ok (fun b hb => by omega)) hm (by omega)).mono ?_
  rintro e w' ⟨v, q, rfl, ⟨r, rfl, hr⟩, h3⟩
  exact ⟨_, q, rfl, ⟨r, rfl, h2 r hr⟩, h3⟩
theorem some10T_any {σ : St} {n B : Nat} {N : Nat → Nat} {w : World} {g m : Nat} (hs : Str σ w n) (hn : n ≤ 4611686018427387904) (hσ : σ.b < B) (h : TB Θw B N w g 0 m) (hm : 0 < m) (hm2 : m ≤ 1000) :
    Calls Tryz.prog 59 #[.pointer (some ⟨σ.b, 0, none⟩), .slice (some ⟨g, 0, none⟩) m m] w (StPost σ n 1 w (IsStr fun r => r.size ≤ 200)) := by
  obtain ⟨xs, h1, h2⟩ := Sl.ofEach (R := RStr) (sz := 1) (F := fun b => B ≤ b) (P := StrT) (n := m) h.low fun i hi => by
    obtain ⟨s, e0, hs⟩ := h.str (i := i) hi
    refine ⟨[.string s], s, rfl, fun j hj => ?_, ⟨rfl, Nat.le_trans hs (by decide)⟩, hs⟩
    obtain rfl : j = 0 := by simpa using hj
    simpa using e0
  refine (some10_any σ n _ m m xs w hs hn (h1.mono RStr.ok (fun b hb => by omega)) hm (by omega)).mono ?_
  rintro e w' ⟨v, q, rfl, ⟨r, rfl, hr, -⟩, h3⟩
  exact ⟨_, q, rfl, ⟨r, rfl, h2 r hr⟩, h3⟩
theorem repeat_any (s : ByteArray) (c : Nat) (w : World) (hs : s.size = 1) (hc : c ≤ 101) : Calls Tryz.prog 62 #[.string s, .int .i64 c] w fun e w' => (∃ r : ByteArray, e = .returned (.string r) ∧ r.size ≤ 101) ∧ All w w' := by
  refine (Tryz.strings_Repeat s c w (by omega) (by rw [hs]; omega)).mono ?_
  rintro e w' ⟨rfl, hb⟩
  refine ⟨⟨_, rfl, ?_⟩, Kept.of_below hb⟩
  show (Lib.repeatL s.data.toList c).toArray.size ≤ 101
  have h1 : ∀ (l : List UInt8) (c : Nat), (Lib.repeatL l c).length = l.length * c := by
    intro l c
    induction c with
    | zero => simp [Lib.repeatL]
    | succ c ih => simp_all [Lib.repeatL, Nat.mul_add]; try omega
  rw [List.size_toArray, h1, show s.data.toList.length = 1 from by rw [Array.length_toList]; exact hs]
  omega
set_option maxHeartbeats 3200000 in
theorem someName_any (σ : St) (n : Nat) (w : World) (hs : Str σ w n) (hn : n ≤ 4611686018427380000) :
    Calls Tryz.prog 60 #[.pointer (some ⟨σ.b, 0, none⟩)] w (StPost σ n 3 w (IsStr fun r => r.size ≤ 200)) := by
  have hl := hs.lt
  go_enter Tryz.func60, Tryz.ntmps60
  go_wp2_with fail
  refine (flip_any σ n 40 _ hs (by omega) (by omega) (by omega)).mono ?_
  rintro e w1 ⟨v, n1, rfl, ⟨b, rfl⟩, hA1, hB1, hs1, hb1⟩
  have hl1 := hs1.lt
  clear hs
  cases b with
  | false =>
    go_wp2_with fail
    refine (some10_any σ n1 _ 10 10 [⟨#[65, 110, 110, 32, 76, 101, 101]⟩, ⟨#[66, 111, 98, 32, 66, 46, 32, 82, 97, 121]⟩, ⟨#[67, 105, 100, 32, 77, 111, 101]⟩, ⟨#[65, 110, 110, 32, 82, 111, 101]⟩, ⟨#[97, 110, 110, 32, 108, 101, 101]⟩, ⟨#[68, 101, 101, 44, 32, 68, 46]⟩, ⟨#[69, 118, 101, 32, 118, 97, 110, 32, 82, 97, 121]⟩, ⟨#[74, 101, 97, 110, 45, 76, 117, 99, 32, 100, 101, 32, 108, 97, 32, 67, 114, 117, 122]⟩, ⟨#[80, 108, 97, 116, 111]⟩, ⟨#[195, 137, 109, 105, 108, 101, 32, 90, 111, 108]⟩] _ (hs1.keep (Kept.alloc _ _ _)) (by omega) (Sl.lit_strs _ (heap_at w1 _ _ rfl) rfl (by omega)) (by omega) (by omega)).mono ?_
    rintro e w2 ⟨v, n2, rfl, ⟨r, rfl, hr, -⟩, hA2, hB2, hs2, hb2⟩
    have hz : r.size ≤ 200 := by
      simp only [List.mem_cons, List.not_mem_nil, or_false] at hr
      rcases hr with rfl | rfl | rfl | rfl | rfl | rfl | rfl | rfl | rfl | rfl <;> decide
    have HB := Lib.hid (show But σ.b w w2 from hb1.trans ((Kept.all (Kept.alloc _ _ _)).trans hb2))
    clear hr hb1 hb2 hs1
    go_wp2_with fail
    go_ret
    exact ⟨_, n2, rfl, ⟨r, rfl, hz⟩, by omega, by omega, hs2, HB.out⟩
  | true =>
    go_wp2_with fail
    refine (pick_any σ n1 _ 2 2 [100, 101] _ (hs1.keep (Kept.alloc _ _ _)) (by omega) (Sl.lit_ints _ (heap_at w1 _ _ rfl) rfl (by omega)) (by omega) (by omega)).mono ?_
    rintro e w2 ⟨v, n2, rfl, ⟨q, rfl, hq⟩, hA2, hB2, hs2, hb2⟩
    obtain ⟨c, rfl, hc⟩ : ∃ c : Nat, q = (c : Int) ∧ c ≤ 101 := by
      simp only [List.mem_cons, List.not_mem_nil, or_false] at hq
      rcases hq with rfl | rfl
      · exact ⟨100, rfl, by decide⟩
      · exact ⟨101, rfl, by decide⟩
    have hl2 := hs2.lt
    have HB2 := Lib.hid (show But σ.b w w2 from hb1.trans ((Kept.all (Kept.alloc _ _ _)).trans hb2))
    clear hq hb1 hb2 hs1
    go_wp2_with fail
    refine (repeat_any ⟨#[110]⟩ c _ rfl hc).mono ?_
    rintro e w3 ⟨⟨r, rfl, hrz⟩, hk3⟩
    have hs3 := hs2.keep hk3
    have hl3 := hs3.lt
    have HB3 := Lib.hid (HB2.out.trans hk3.all)
    clear hk3 hs2
    go_wp2_with fail
    refine (some10_any σ n2 _ 6 6 [⟨#[]⟩, ⟨#[32, 97]⟩, ⟨#[97, 32, 32, 98]⟩, ⟨#[97, 10]⟩, r, ⟨#[255]⟩] _ (hs3.keep (Kept.alloc _ _ _)) (by omega) (Sl.lit_strs' [⟨#[]⟩, ⟨#[32, 97]⟩, ⟨#[97, 32, 32, 98]⟩, ⟨#[97, 10]⟩, r, ⟨#[255]⟩] (heap_at w3 _ _ rfl) rfl (by omega) (by
      intro s hs
      simp only [List.mem_cons, List.not_mem_nil, or_false] at hs
      rcases hs with rfl | rfl | rfl | rfl | rfl | rfl <;> first | decide | omega)) (by omega) (by omega)).mono ?_
    rintro e w4 ⟨v, n4, rfl, ⟨t, rfl, ht, -⟩, hA4, hB4, hs4, hb4⟩
    have hz : t.size ≤ 200 := by
      simp only [List.mem_cons, List.not_mem_nil, or_false] at ht
      rcases ht with rfl | rfl | rfl | rfl | rfl | rfl <;> first | decide | omega
    have HB := Lib.hid (show But σ.b w w4 from HB3.out.trans ((Kept.all (Kept.alloc _ _ _)).trans hb4))
    clear ht hb4 hs3
    go_wp2_with fail
    go_ret
    exact ⟨_, n4, rfl, ⟨t, rfl, hz⟩, by omega, by omega, hs4, HB.out⟩
end Go.Proofs.YtgobnlgmbplggaaGreatDoor
