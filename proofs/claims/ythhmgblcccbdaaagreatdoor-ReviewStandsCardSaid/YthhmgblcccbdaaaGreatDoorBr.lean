/- A region that draws its order, without guards: what holds throughout may speak of the temporaries. Reviews cloned and appended to inside such a region. -/
import Derived.Test.YthhmgblcccbdaaaGreatDoorZm
import Derived.Test.YthhmgblcccbdaaaGreatDoorAt
namespace Go.Proofs.YthhmgblcccbdaaaGreatDoor
open Go.RowKit

theorem wp_region_invA {P : Program} {ops : Array Oper} {Q : Exit → Act → World → Prop} {id : Nat} {a0 : Act} {w0 : World} (z : Nat) (hm : P.follows .mixedOrders = true) (hform : (formOk ops z a0.tmps.size && plainOk ops z) = true) (hall : (List.range z).all (fun i => (dstAt ops i).isSome) = true)
    (G : Nat → (Nat → Bool) → Act → World → Prop) (D : Nat → Value → World → Prop) (M : Nat → World → World → Prop) (hM : ∀ i j v w w', i < z → j < z → i ≠ j → j ∉ depsOf ops i → M j w w' → D i v w → D i v w') (hG : G 0 (fun _ => false) a0 w0.drew)
    (hstep : ∀ i o t, ops[i]? = some o → o.dst = some t → i < z → ∀ k L a w, k < z → G k L a w → L i = false → a.defers = a0.defers → t < a.tmps.size → a.tmps.size = a0.tmps.size → (∀ t, t ∉ dsts ops z → a.tmps[t]? = a0.tmps[t]?) → (∀ j ∈ depsOf ops i, L j = true) →
      (∀ j ∈ depsOf ops i, ∀ t, dstAt ops j = some t → D j (a.tmps.getD t undef) w) → o.wp P a w (fun a' w' => ∃ v, a' = a.put (some t) v ∧ G (k + 1) (fun j => if j = i then true else L j) (a.put (some t) v) w' ∧ M i w w' ∧ D i v w') Q)
    (hlast : ∀ w (f : Tmp → Value), (∃ a L, G z L a w) → (∀ i t, i < z → dstAt ops i = some t → D i (f t) w) → WPL P ops Q (ops.toList.drop z) (puts a0 ((dsts ops z).map fun t => (t, f t))) w) :
    (Code.region id ops true).wp P Q a0 w0 := by
  obtain ⟨hfo, hpl⟩ := Bool.and_eq_true_iff.1 hform
  have hf := FormIs.of hfo
  refine wp_region_fullL z hm hfo G (fun i a w => ∀ t, dstAt ops i = some t → D i (a.tmps.getD t undef) w) (fun i _ _ w w' => M i w w') (fun i j _ _ a w v w' hi hj hij hnd _ hmm hd t ht => ?_) hG (fun i o ho hi k L a w hk hg hLi h1 h2 h3 hLd h4 => ?_) (fun w a L hg _ hd => (hlast w (fun t => a.tmps.getD t undef) ⟨a, L, hg⟩ (fun i t hi ht => hd i hi t ht)).out)
  · have et : dstAt ops j ≠ some t := fun e => (hf.dst i t hi ht).2 j hj (Ne.symm hij) e
    rw [put_at v et]
    exact hM _ _ _ _ _ hi hj hij hnd hmm (hd t ht)
  · have hdi : dstAt ops i = o.dst := by simp [dstAt, ho]
    obtain ⟨t, ht⟩ : ∃ t, o.dst = some t := by
      have := List.all_eq_true.1 hall i (List.mem_range.2 hi)
      rw [hdi] at this
      exact Option.isSome_iff_exists.1 this
    have hta := (hf.dst i t hi (by rw [hdi, ht])).1
    rw [if_pos (by simp [Region.wanted, plainOk.guard hpl hi ho])]
    refine Oper.wp_mono ?_ (hstep i o t ho ht hi k L a w hk hg hLi h1 (by rw [h2]; exact hta) h2 h3 hLd (fun j hj s hs => h4 j hj s hs))
    rintro a' w' ⟨v, rfl, hg', hm', hd'⟩
    refine ⟨v, by rw [ht], by rw [ht]; exact hg', hm', fun s hs => ?_⟩
    rw [hdi, ht] at hs
    obtain rfl := Option.some.inj hs
    have e : ((a.put o.dst v).tmps.getD t undef) = v := by rw [ht]; simp [Act.put, Array.getD_eq_getD_getElem?, h2, hta]
    rw [e]; exact hd'

theorem QIs.staysB (u : Value) (s : Nat) : Stays (But s) (QIs u) := fun _ _ _ _ h => h
def QBool (v : Value) (_ : World) : Prop := ∃ r : Bool, v = .bool r
theorem QBool.staysB (s : Nat) : Stays (But s) QBool := fun _ _ _ _ h => h
def QRowB (s : Nat) (cs : Array Value) (T : TypeId) (v : Value) (w : World) : Prop := ∃ b, v = .slice (some ⟨b, 0, none⟩) 1 1 ∧ b ≠ s ∧ w.heap[b]? = some (.cells cs T (0, 0))
theorem QRowB.stays (s : Nat) (cs : Array Value) (T : TypeId) : Stays (But s) (QRowB s cs T) := fun _ _ _ k ⟨b, h1, h2, h3⟩ => ⟨b, h1, h2, k.heap h3 h2⟩
def QHdr (n : Nat) (v : Value) (_ : World) : Prop := ∃ p c, v = .slice p n c
theorem QHdr.staysB (n s : Nat) : Stays (But s) (QHdr n) := fun _ _ _ _ h => h
def QHd1 (v : Value) (_ : World) : Prop := ∃ b, v = .slice (some ⟨b, 0, none⟩) 1 1
theorem QHd1.staysB (s : Nat) : Stays (But s) QHd1 := fun _ _ _ _ h => h
/-- Reviews of the region's own; what they refer to was there at wA. -/
def QAccF (s : Nat) (wA : World) (xs : List Rev) (v : Value) (w : World) : Prop := ∃ p c, v = .slice p xs.length c ∧ Acc RRev 7 45 (fun k => k ≠ s ∧ k < wA.heap.size) wA.heap.size w (.slice p xs.length c) xs
theorem QAccF.staysB (s : Nat) (wA : World) (xs : List Rev) (h : s < wA.heap.size) : Stays (But s) (QAccF s wA xs) :=
  fun _ _ _ k ⟨p, c, h1, h2⟩ => ⟨p, c, h1, h2.keep RRev.ok k (fun _ h => h.1) (fun j hj => by have := (h2.lt j hj).1; omega)⟩
/-- What holds while the region's operations come up: the stream; what the clone (operation ic, slot sc) and the new row (ir, sr) read, until the one is appended to the other (operation ia). -/
def GPR (σ : St) (n4 : Nat) (wA : World) (xs : List Rev) (cs : Array Value) (ic sc ir sr ia : Nat) (k : Nat) (L : Nat → Bool) (a : Act) (w : World) : Prop :=
  (∃ n', Str σ w n' ∧ n4 ≤ n' ∧ n' ≤ n4 + k ∧ But σ.b wA w) ∧ (L ia = false → L ic = true → a.tmps.getD sc undef = undef ∨ QAccF σ.b wA xs (a.tmps.getD sc undef) w) ∧ (L ia = false → L ir = true → a.tmps.getD sr undef = undef ∨ QRowB σ.b cs 45 (a.tmps.getD sr undef) w)
theorem GPR.step {σ : St} {n4 : Nat} {wA : World} {xs : List Rev} {cs : Array Value} {ic sc ir sr ia k : Nat} {L : Nat → Bool} {a : Act} {w : World} (h : GPR σ n4 wA xs cs ic sc ir sr ia k L a w) (i t : Nat) (v : Value) (w' : World) (hl : σ.b < wA.heap.size) (ht : t < a.tmps.size) (hb : i ≠ ia → But σ.b w w')
    (hn : ∃ n', Str σ w' n' ∧ n4 ≤ n' ∧ n' ≤ n4 + (k + 1) ∧ But σ.b wA w') (h5 : i ≠ ia → t = sc → v = undef ∨ QAccF σ.b wA xs v w') (h7 : i ≠ ia → t = sr → v = undef ∨ QRowB σ.b cs 45 v w') (h5' : i = ic → t = sc) (h7' : i = ir → t = sr) :
    GPR σ n4 wA xs cs ic sc ir sr ia (k + 1) (fun j => if j = i then true else L j) (a.put (some t) v) w' := by
  have same : (a.put (some t) v).tmps.getD t undef = v := by simp [Act.put, Array.getD_eq_getD_getElem?, ht]
  obtain ⟨-, g5, g7⟩ := h
  refine ⟨hn, fun e8 e5 => ?_, fun e8 e7 => ?_⟩
  · replace e8 : (if ia = i then true else L ia) = false := e8
    replace e5 : (if ic = i then true else L ic) = true := e5
    by_cases hi8 : ia = i
    · rw [if_pos hi8] at e8; cases e8
    · rw [if_neg hi8] at e8
      by_cases h77 : t = sc
      · subst h77; rw [same]; exact h5 (fun h => hi8 h.symm) rfl
      · rw [put_other v h77]
        rw [if_neg (fun h => h77 (h5' h.symm))] at e5
        exact (g5 e8 e5).imp (fun h => h) (QAccF.staysB σ.b wA xs hl _ _ _ (hb (fun h => hi8 h.symm)))
  · replace e8 : (if ia = i then true else L ia) = false := e8
    replace e7 : (if ir = i then true else L ir) = true := e7
    by_cases hi8 : ia = i
    · rw [if_pos hi8] at e8; cases e8
    · rw [if_neg hi8] at e8
      by_cases h79 : t = sr
      · subst h79; rw [same]; exact h7 (fun h => hi8 h.symm) rfl
      · rw [put_other v h79]
        rw [if_neg (fun h => h79 (h7' h.symm))] at e7
        exact (g7 e8 e7).imp (fun h => h) (QRowB.stays σ.b cs 45 _ _ _ (hb (fun h => hi8 h.symm)))
end Go.Proofs.YthhmgblcccbdaaaGreatDoor
