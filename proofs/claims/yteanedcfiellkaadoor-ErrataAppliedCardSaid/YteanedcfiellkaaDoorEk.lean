/- Errata applied, step by step; what Apply and CorrectOf return. No program in sight but types. -/
import Derived.Test.YteanedcfiellkaaDoorEj
import Derived.Test.YteanedcfiellkaaDoorEc
import Derived.Test.YteanedcfiellkaaDoorGh
namespace Go.Proofs.YteanedcfiellkaaDoor
open Go.RowKit

def ApAt (xs : List Fin4) (es : List Err5) (k : Nat) (ys : List Fin4) (n : Int) : Prop := applyF xs 0 es = applyF ys n (es.drop k)
section
variable {xs ys : List Fin4} {es : List Err5} {k : Nat} {n : Int} {x : Err5} {l : Loc}
theorem applyF_cons (xs : List Fin4) (n : Int) (x : Err5) (r : List Err5) : applyF xs n (x :: r) = match whereF xs x with
    | none => (8, [], 0)
    | some p => if getF xs p = x.old then applyF (setF xs p x.new) (n + 1) r else if getF xs p = x.new then applyF xs n r else (13, [], 0) := rfl
theorem ApAt.zero (xs : List Fin4) (es : List Err5) : ApAt xs es 0 xs 0 := by simp [ApAt]
theorem ApAt.none (h : ApAt xs es k ys n) (hx : es[k]? = some x) (hw : whereF ys x = none) : applyF xs 0 es = (8, [], 0) := by
  rw [h, drop_at hx, applyF_cons, hw]
theorem ApAt.old (h : ApAt xs es k ys n) (hx : es[k]? = some x) (hw : whereF ys x = some l) (ho : getF ys l = x.old) : ApAt xs es (k + 1) (setF ys l x.new) (n + 1) := by
  unfold ApAt at *
  rw [h, drop_at hx, applyF_cons, hw]
  simp only [if_pos ho]
theorem ApAt.same (h : ApAt xs es k ys n) (hx : es[k]? = some x) (hw : whereF ys x = some l) (ho : getF ys l ≠ x.old) (hn : getF ys l = x.new) : ApAt xs es (k + 1) ys n := by
  unfold ApAt at *
  rw [h, drop_at hx, applyF_cons, hw]
  simp only [if_neg ho, if_pos hn]
theorem ApAt.conf (h : ApAt xs es k ys n) (hx : es[k]? = some x) (hw : whereF ys x = some l) (ho : getF ys l ≠ x.old) (hn : getF ys l ≠ x.new) : applyF xs 0 es = (13, [], 0) := by
  rw [h, drop_at hx, applyF_cons, hw]
  simp only [if_neg ho, if_neg hn]
theorem ApAt.ok (h : ApAt xs es k ys n) (hk : es.length ≤ k) : applyF xs 0 es = (0, ys, n) := by
  rw [h, List.drop_of_length_le hk]; rfl
end
/-- What Apply returns: the error, the finals, how many were applied. -/
noncomputable def applyAll (xs : List Fin4) (es : List Err5) : Int × List Fin4 × Int :=
  if finalsF xs ≠ 0 then (finalsF xs, [], 0) else if errataF es ≠ 0 then (errataF es, [], 0) else applyF xs 0 es
theorem applyAll_fin {xs : List Fin4} {es : List Err5} (h : finalsF xs ≠ 0) : applyAll xs es = (finalsF xs, [], 0) := by rw [applyAll, if_pos h]
theorem applyAll_err {xs : List Fin4} {es : List Err5} (h : finalsF xs = 0) (h2 : errataF es ≠ 0) : applyAll xs es = (errataF es, [], 0) := by rw [applyAll, if_neg (by simp [h]), if_pos h2]
theorem applyAll_ok {xs : List Fin4} {es : List Err5} (h : finalsF xs = 0) (h2 : errataF es = 0) : applyAll xs es = applyF xs 0 es := by rw [applyAll, if_neg (by simp [h]), if_neg (by simp [h2])]
def OutPost (r : Int × List Fin4 × Int) (w : World) (e : Ending) (w' : World) : Prop :=
  ∃ a c ys n er, r = (er, ys, n) ∧ e = .returned (.tuple #[.slice a ys.length c, .int .i64 n, .int .i64 er]) ∧ Sl RFin 4 (fun _ => True) w' a ys.length ys ∧ ys.length ≤ 1000 ∧ All w w'
theorem OutPost.fail {r : Int × List Fin4 × Int} {w w' : World} {er : Int} (h : r = (er, [], 0)) (hw : All w w') : OutPost r w (.returned (.tuple #[.slice none 0 0, .int .i64 0, .int .i64 er])) w' :=
  ⟨none, 0, [], 0, er, h, rfl, Sl.nil _ _ _ _ _, by simp, hw⟩
theorem OutPost.good {r : Int × List Fin4 × Int} {w w' : World} {ys : List Fin4} {n : Int} {B0 : Nat} {tag : Nat → Nat} {a : Option Addr} {c ll : Nat} (h : r = (0, ys, n)) (ho : Own B0 tag ys (.slice a ll c) w') (hl : ys.length ≤ 1000) (hw : All w w') :
    OutPost r w (.returned (.tuple #[.slice a ll c, .int .i64 n, .int .i64 0])) w' := by
  obtain ⟨h1, h2⟩ := Own.sl ho
  subst h1
  exact ⟨a, c, ys, n, 0, h, rfl, h2, hl, hw⟩
/-- What the loop over errata keeps. -/
def ApInv (B0 : Nat) (tag : Nat → Nat) (xs : List Fin4) (es : List Err5) (p : Option Addr) (ll c k : Nat) (n : Int) (w0 w : World) : Prop :=
  ∃ ys, Own B0 tag ys (.slice p ll c) w ∧ Rises ys ∧ ApAt xs es k ys n ∧ 0 ≤ n ∧ n ≤ k ∧ All w0 w
theorem ApInv.next {B0 : Nat} {tag : Nat → Nat} {xs ys : List Fin4} {es : List Err5} {p : Option Addr} {ll c k : Nat} {n : Int} {w0 w : World} {x : Err5} {l : Loc} {ad : Addr}
    (hr : Rises ys) (ha : ApAt xs es k ys n) (hx : es[k]? = some x) (hw : whereF ys x = some l) (ho : getF ys l = x.old) (h0 : 0 ≤ n) (hn : n ≤ k) (hall : All w0 w) (hB : w0.heap.size ≤ B0) (hp : Place B0 tag ys (.slice p ll c) w l ad) (hs : x.new.size ≤ 1000000) :
    ApInv B0 tag xs es p ll c (k + 1) (n + 1) w0 (w.setCell ad (.string x.new)) :=
  ⟨_, hp.store _ hs, setF_rises hr _ _, ha.old hx hw ho, by omega, by omega, hall.then_setNew _ _ (by have := hp.base; omega)⟩
theorem ApInv.same {B0 : Nat} {tag : Nat → Nat} {xs ys : List Fin4} {es : List Err5} {p : Option Addr} {ll c k : Nat} {n : Int} {w0 w : World} {x : Err5} {l : Loc}
    (hr : Rises ys) (hO : Own B0 tag ys (.slice p ll c) w) (ha : ApAt xs es k ys n) (hx : es[k]? = some x) (hw : whereF ys x = some l) (ho : getF ys l ≠ x.old) (hne : getF ys l = x.new) (h0 : 0 ≤ n) (hn : n ≤ k) (hall : All w0 w) :
    ApInv B0 tag xs es p ll c (k + 1) n w0 w :=
  ⟨_, hO, hr, ha.same hx hw ho hne, by omega, by omega, hall⟩
theorem all_setDrew (w : World) (q : Nat) (ad : Addr) (v : Value) : All (w.setCell ad v) ((w.drewN q).setCell ad v) := Kept.drewN _ (w.setCell ad v) q
theorem ApInv.keep {B0 : Nat} {tag : Nat → Nat} {xs : List Fin4} {es : List Err5} {p : Option Addr} {ll c k : Nat} {n : Int} {w0 w w' : World} (h : ApInv B0 tag xs es p ll c k n w0 w) (hk : All w w') : ApInv B0 tag xs es p ll c k n w0 w' := by
  obtain ⟨ys, h1, h2, h3, h4, h5, h6⟩ := h
  exact ⟨ys, h1.keepAll (RFinO.ok 1000) hk, h2, h3, h4, h5, h6.trans hk⟩
theorem errF_field {x : Err5} (h : errF x = 0) : x.field = 1 ∨ x.field = 2 := by
  unfold errF at h
  split at h
  · omega
  · split at h
    · omega
    · omega
theorem errsF_field : ∀ {es : List Err5}, errsF es = 0 → ∀ x ∈ es, x.field = 1 ∨ x.field = 2
  | [], _, _, hx => by cases hx
  | y :: l, h, x, hx => by
    rw [errsF_cons] at h
    by_cases hf : errF y = 0
    · rw [if_neg (by simp [hf])] at h
      rcases List.mem_cons.1 hx with rfl | hx
      · exact errF_field hf
      · exact errsF_field h x hx
    · rw [if_pos hf] at h
      exact absurd h hf
theorem errataF_field {es : List Err5} (h : errataF es = 0) : ∀ x ∈ es, x.field = 1 ∨ x.field = 2 := by
  unfold errataF at h
  split at h
  · omega
  · exact errsF_field h
end Go.Proofs.YteanedcfiellkaaDoor
