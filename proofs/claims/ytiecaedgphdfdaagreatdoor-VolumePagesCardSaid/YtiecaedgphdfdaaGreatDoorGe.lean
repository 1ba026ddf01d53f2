/- What CheckFinals and FinalsFault compute. No program in sight. -/
import Derived.Test.YtiecaedgphdfdaaGreatDoorGd
import Derived.Test.YtiecaedgphdfdaaGreatDoorQa
import Derived.Test.YtiecaedgphdfdaaGreatDoorQb
namespace Go.Proofs.YtiecaedgphdfdaaGreatDoor
open Go.RowKit

/-- The error of credits, behind those before. -/
noncomputable def credsF (before : List Cred) : List Cred → Int
  | [] => 0
  | c :: l => if isKeyB c.key = false then 5 else if before.any (hasKey c.key) = true then 6 else if lineB c.name 100 = false then 3 else credsF (before ++ [c]) l
noncomputable def creditsF (l : List Cred) : Int := if l.length = 0 then 3 else if 20 < l.length then 2 else credsF [] l
/-- Is the key s not behind p? -/
def ordB (p : Option ByteArray) (s : ByteArray) : Bool := match p with | none => false | some q => leB s q
noncomputable def finF (p : Option ByteArray) (x : Fin4) : Int :=
  if isKeyB x.paper = false then 5 else if ordB p x.paper = true then 7 else if lineB x.title 200 = false then 3 else if x.pages < 1 ∨ 100 < x.pages then 1 else creditsF x.credits
noncomputable def finsF (p : Option ByteArray) : List Fin4 → Int
  | [] => 0
  | x :: l => if finF p x ≠ 0 then finF p x else finsF (some x.paper) l
noncomputable def finalsF (l : List Fin4) : Int := if 400 < l.length then 2 else finsF none l

theorem credsF_cons (before : List Cred) (c : Cred) (l : List Cred) : credsF before (c :: l) = if isKeyB c.key = false then 5 else if before.any (hasKey c.key) = true then 6 else if lineB c.name 100 = false then 3 else credsF (before ++ [c]) l := rfl
theorem finsF_cons (p : Option ByteArray) (x : Fin4) (l : List Fin4) : finsF p (x :: l) = if finF p x ≠ 0 then finF p x else finsF (some x.paper) l := rfl

/-- The walk over credits up to place j has found nothing. -/
def CredAt (cs : List Cred) (j : Nat) : Prop := credsF [] cs = credsF (cs.take j) (cs.drop j)
section
variable {cs : List Cred} {j : Nat} {y : Cred}
theorem CredAt.zero (cs : List Cred) : CredAt cs 0 := by simp [CredAt]
theorem CredAt.name (h : CredAt cs j) (hy : cs[j]? = some y) (hn : isKeyB y.key = false) : credsF [] cs = 5 := by
  rw [h, drop_at hy, credsF_cons, if_pos hn]
theorem CredAt.twice (h : CredAt cs j) (hy : cs[j]? = some y) (hn : isKeyB y.key = true) (ht : (cs.take j).any (hasKey y.key) = true) : credsF [] cs = 6 := by
  rw [h, drop_at hy, credsF_cons, if_neg (by simp [hn]), if_pos ht]
theorem CredAt.form (h : CredAt cs j) (hy : cs[j]? = some y) (hn : isKeyB y.key = true) (ht : (cs.take j).any (hasKey y.key) = false) (hl : lineB y.name 100 = false) : credsF [] cs = 3 := by
  rw [h, drop_at hy, credsF_cons, if_neg (by simp [hn]), if_neg (by simp [ht]), if_pos hl]
theorem CredAt.next (h : CredAt cs j) (hy : cs[j]? = some y) (hn : isKeyB y.key = true) (ht : (cs.take j).any (hasKey y.key) = false) (hl : lineB y.name 100 = true) : CredAt cs (j + 1) := by
  unfold CredAt at *
  obtain ⟨hk, rfl⟩ := List.getElem?_eq_some_iff.1 hy
  rw [h, drop_at hy, credsF_cons, if_neg (by simp [hn]), if_neg (by simp [ht]), if_neg (by simp [hl]), List.take_succ_eq_append_getElem hk]
theorem CredAt.ok (h : CredAt cs j) (hj : cs.length ≤ j) : credsF [] cs = 0 := by
  rw [h, List.drop_of_length_le hj]; rfl
end
theorem creditsF_none {cs : List Cred} (h : cs.length = 0) : creditsF cs = 3 := by rw [creditsF, if_pos h]
theorem creditsF_large {cs : List Cred} (h : 20 < cs.length) : creditsF cs = 2 := by rw [creditsF, if_neg (by omega), if_pos h]
theorem creditsF_some {cs : List Cred} (h : ¬ cs.length = 0) (h2 : ¬ 20 < cs.length) : creditsF cs = credsF [] cs := by rw [creditsF, if_neg h, if_neg h2]

/-- The paper of the last one. -/
def lastP (xs : List Fin4) : Option ByteArray := xs.getLast?.map (·.paper)
/-- The walk over finals up to place k has found nothing. -/
def FinAt (xs : List Fin4) (k : Nat) : Prop := finsF none xs = finsF (lastP (xs.take k)) (xs.drop k)
section
variable {xs : List Fin4} {k : Nat} {x : Fin4} {p : Option ByteArray}
theorem lastP_succ (hx : xs[k]? = some x) : lastP (xs.take (k + 1)) = some x.paper := by unfold lastP; rw [last_take hx]; rfl
theorem lastP_zero (xs : List Fin4) : lastP (xs.take 0) = none := by simp [lastP]
theorem FinAt.zero (xs : List Fin4) : FinAt xs 0 := by simp [FinAt, lastP]
theorem FinAt.bad {e : Int} (h : FinAt xs k) (hx : xs[k]? = some x) (hf : finF (lastP (xs.take k)) x = e) (he : e ≠ 0) : finsF none xs = e := by
  rw [h, drop_at hx, finsF_cons, hf, if_pos he]
theorem FinAt.next (h : FinAt xs k) (hx : xs[k]? = some x) (hf : finF (lastP (xs.take k)) x = 0) : FinAt xs (k + 1) := by
  unfold FinAt at *
  rw [h, drop_at hx, finsF_cons, hf, if_neg (by simp), lastP_succ hx]
theorem FinAt.ok (h : FinAt xs k) (hk : xs.length ≤ k) : finsF none xs = 0 := by
  rw [h, List.drop_of_length_le hk]; rfl
theorem finF_name (h1 : isKeyB x.paper = false) : finF p x = 5 := by rw [finF, if_pos h1]
theorem finF_order (h1 : isKeyB x.paper = true) (h2 : ordB p x.paper = true) : finF p x = 7 := by rw [finF, if_neg (by simp [h1]), if_pos h2]
theorem finF_form (h1 : isKeyB x.paper = true) (h2 : ordB p x.paper = false) (h3 : lineB x.title 200 = false) : finF p x = 3 := by rw [finF, if_neg (by simp [h1]), if_neg (by simp [h2]), if_pos h3]
theorem finF_arg (h1 : isKeyB x.paper = true) (h2 : ordB p x.paper = false) (h3 : lineB x.title 200 = true) (h4 : x.pages < 1 ∨ 100 < x.pages) : finF p x = 1 := by rw [finF, if_neg (by simp [h1]), if_neg (by simp [h2]), if_neg (by simp [h3]), if_pos h4]
theorem finF_cred (h1 : isKeyB x.paper = true) (h2 : ordB p x.paper = false) (h3 : lineB x.title 200 = true) (h4 : ¬ (x.pages < 1 ∨ 100 < x.pages)) : finF p x = creditsF x.credits := by rw [finF, if_neg (by simp [h1]), if_neg (by simp [h2]), if_neg (by simp [h3]), if_neg h4]
end
theorem finalsF_large {xs : List Fin4} (h : 400 < xs.length) : finalsF xs = 2 := by rw [finalsF, if_pos h]
theorem finalsF_some {xs : List Fin4} (h : ¬ 400 < xs.length) : finalsF xs = finsF none xs := by rw [finalsF, if_neg h]
/-- A key is behind the empty string: so the reference may begin with it. -/
theorem key_ne {s : ByteArray} (h : isKeyB s = true) : s.toList ≠ [] := by
  have h1 : isKey s := by
    apply Classical.byContradiction
    intro hn
    rw [isKeyB_false hn] at h
    cases h
  exact toList_ne (by have := h1.2.1; omega)
theorem ordB_last {p : Option ByteArray} {s : ByteArray} (h : isKeyB s = true) : ordB p s = leB s (p.getD ByteArray.empty) := by
  cases p with
  | some q => rfl
  | none =>
    have h0 := key_ne h
    have he : (ByteArray.empty).toList = [] := toList_nil rfl
    simp only [ordB, Option.getD_none, leB, he]
    cases hs : s.toList with
    | nil => exact absurd hs h0
    | cons a l => rfl

/-- Element k of a slice of finals. -/
theorem Sl.atFin {F : Nat → Prop} {w : World} {a : Option Addr} {len : Nat} {xs : List Fin4} (h : Sl RFin 4 F w a len xs) {k : Nat} (hk : k < len) :
    ∃ b off x ac cc, a = some ⟨b, off, none⟩ ∧ F b ∧ w.cell? ⟨b, off + k * 4, none⟩ = some (.string x.paper) ∧ w.cell? ⟨b, off + k * 4 + 1, none⟩ = some (.string x.title) ∧ w.cell? ⟨b, off + k * 4 + 2, none⟩ = some (.int .i64 x.pages) ∧ w.cell? ⟨b, off + k * 4 + 3, none⟩ = some (.slice ac x.credits.length cc) ∧
      FinSmallR x ∧ x.credits.length ≤ cc ∧ Sl RCred 2 F w ac x.credits.length x.credits ∧ xs[k]? = some x ∧ xs = xs.take k ++ x :: xs.drop (k + 1) ∧ xs.take (k + 1) = xs.take k ++ [x] := by
  obtain ⟨b, off, vs, x, ha, hF, h1, h2, ⟨ac, cc, rfl, hsm, hcc, hc⟩, h4, h5, h6⟩ := h.at hk
  exact ⟨b, off, x, ac, cc, ha, hF, by simpa using h2 0 (by simp), by simpa using h2 1 (by simp), by simpa using h2 2 (by simp), by simpa using h2 3 (by simp), hsm, hcc, hc, h4, h5, h6⟩
end Go.Proofs.YtiecaedgphdfdaaGreatDoor
