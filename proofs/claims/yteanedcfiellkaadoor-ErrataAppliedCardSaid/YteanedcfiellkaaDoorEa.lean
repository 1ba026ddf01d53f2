/- Errata: how they lie in memory; what CheckErrata and ErrataFault compute. No program in sight. -/
import Derived.Test.YteanedcfiellkaaDoorOa
namespace Go.Proofs.YteanedcfiellkaaDoor
open Go.RowKit

structure Err5 where
  paper : ByteArray
  field : Int
  key : ByteArray
  old : ByteArray
  new : ByteArray
def ErrSmall (x : Err5) : Prop := x.paper.size ≤ 1000000 ∧ (-2000000000000 ≤ x.field ∧ x.field ≤ 2000000000000) ∧ x.key.size ≤ 1000000 ∧ x.old.size ≤ 1000000 ∧ x.new.size ≤ 1000000
def RErr : Rel Err5 := fun _ _ vs x => vs = [.string x.paper, .int .i64 x.field, .string x.key, .string x.old, .string x.new] ∧ ErrSmall x
theorem RErr.ok : RErr.Ok := ⟨fun _ h => h, fun _ h => h, fun h => h⟩
theorem Sl.atErr {F : Nat → Prop} {w : World} {a : Option Addr} {len : Nat} {xs : List Err5} (h : Sl RErr 5 F w a len xs) {k : Nat} (hk : k < len) :
    ∃ b off x, a = some ⟨b, off, none⟩ ∧ F b ∧ w.cell? ⟨b, off + k * 5, none⟩ = some (.string x.paper) ∧ w.cell? ⟨b, off + k * 5 + 1, none⟩ = some (.int .i64 x.field) ∧ w.cell? ⟨b, off + k * 5 + 2, none⟩ = some (.string x.key) ∧ w.cell? ⟨b, off + k * 5 + 3, none⟩ = some (.string x.old) ∧ w.cell? ⟨b, off + k * 5 + 4, none⟩ = some (.string x.new) ∧
      ErrSmall x ∧ xs[k]? = some x ∧ xs.take (k + 1) = xs.take k ++ [x] := by
  obtain ⟨b, off, vs, x, ha, hF, h1, h2, ⟨rfl, hsm⟩, h4, h5, h6⟩ := h.at hk
  exact ⟨b, off, x, ha, hF, by simpa using h2 0 (by simp), by simpa using h2 1 (by simp), by simpa using h2 2 (by simp), by simpa using h2 3 (by simp), by simpa using h2 4 (by simp), hsm, h4, h6⟩

/-- How long what an erratum is about may be. -/
def mostOf (x : Err5) : Int := if x.field = 2 then 100 else 200
noncomputable def errF (x : Err5) : Int :=
  if isKeyB x.paper = false then 5 else if x.field < 1 ∨ 2 < x.field then 4 else if x.field = 1 ∧ x.key.size ≠ 0 then 3 else if x.field = 2 ∧ isKeyB x.key = false then 5 else
  if lineB x.old (mostOf x) = false ∨ lineB x.new (mostOf x) = false then 3 else if x.old = x.new then 14 else 0
noncomputable def errsF : List Err5 → Int
  | [] => 0
  | x :: l => if errF x ≠ 0 then errF x else errsF l
noncomputable def errataF (l : List Err5) : Int := if 200 < l.length then 2 else errsF l
theorem errsF_cons (x : Err5) (l : List Err5) : errsF (x :: l) = if errF x ≠ 0 then errF x else errsF l := rfl
def ErrAt (xs : List Err5) (k : Nat) : Prop := errsF xs = errsF (xs.drop k)
section
variable {xs : List Err5} {k : Nat} {x : Err5}
theorem ErrAt.zero (xs : List Err5) : ErrAt xs 0 := by simp [ErrAt]
theorem ErrAt.bad {e : Int} (h : ErrAt xs k) (hx : xs[k]? = some x) (hf : errF x = e) (he : e ≠ 0) : errsF xs = e := by
  rw [h, drop_at hx, errsF_cons, hf, if_pos he]
theorem ErrAt.next (h : ErrAt xs k) (hx : xs[k]? = some x) (hf : errF x = 0) : ErrAt xs (k + 1) := by
  unfold ErrAt at *
  rw [h, drop_at hx, errsF_cons, hf, if_neg (by simp)]
theorem ErrAt.ok (h : ErrAt xs k) (hk : xs.length ≤ k) : errsF xs = 0 := by
  rw [h, List.drop_of_length_le hk]; rfl
theorem errF_name (h1 : isKeyB x.paper = false) : errF x = 5 := by rw [errF, if_pos h1]
theorem errF_kind (h1 : isKeyB x.paper = true) (h2 : x.field < 1 ∨ 2 < x.field) : errF x = 4 := by rw [errF, if_neg (by simp [h1]), if_pos h2]
theorem errF_title (h1 : isKeyB x.paper = true) (h2 : x.field = 1) (h3 : x.key.size ≠ 0) : errF x = 3 := by rw [errF, if_neg (by simp [h1]), if_neg (by omega), if_pos ⟨h2, h3⟩]
theorem errF_key (h1 : isKeyB x.paper = true) (h2 : x.field = 2) (h3 : isKeyB x.key = false) : errF x = 5 := by rw [errF, if_neg (by simp [h1]), if_neg (by omega), if_neg (by omega), if_pos ⟨h2, h3⟩]
theorem errF_rest (h1 : isKeyB x.paper = true) (h2 : (x.field = 1 ∧ x.key.size = 0) ∨ (x.field = 2 ∧ isKeyB x.key = true)) : errF x = if lineB x.old (mostOf x) = false ∨ lineB x.new (mostOf x) = false then 3 else if x.old = x.new then 14 else 0 := by
  have h6 : ¬ (x.field = 2 ∧ isKeyB x.key = false) := by
    rintro ⟨h3, h4⟩
    rcases h2 with ⟨h5, _⟩ | ⟨_, h5⟩
    · omega
    · rw [h5] at h4; cases h4
  rw [errF, if_neg (by simp [h1]), if_neg (by omega), if_neg (by omega), if_neg h6]
end
theorem errataF_large {xs : List Err5} (h : 200 < xs.length) : errataF xs = 2 := by rw [errataF, if_pos h]
theorem errataF_some {xs : List Err5} (h : ¬ 200 < xs.length) : errataF xs = errsF xs := by rw [errataF, if_neg h]
end Go.Proofs.YteanedcfiellkaaDoor
