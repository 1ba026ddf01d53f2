/- IndexFunc and ContainsFunc over slices of credits. -/
import Derived.Test.YtiecaedgphdfdaaGreatDoorGb
import Derived.Test.YtiecaedgphdfdaaGreatDoorFa
import Derived.Shelf.Abstract
namespace Go.Proofs.YtiecaedgphdfdaaGreatDoor
open Go.RowKit

/-- Function value g with what it has captured answers p of a credit. -/
def AnswersC (P : Program) (g : FuncId) (caps : Array Value) (w : World) (p : Cred → Bool) : Prop :=
  ∀ (y : Cred) (wx : World), All w wx → Calls P g (#[.agg #[.string y.key, .string y.name]] ++ caps) wx fun e w' => e = .returned (.bool (p y)) ∧ All wx w'

def findG {α : Type} (p : α → Bool) : Nat → List α → Int
  | _, [] => -1
  | k, s :: l => if p s = true then k else findG p (k + 1) l
theorem findG_neg {α : Type} {p : α → Bool} : ∀ {ss : List α} {k : Nat}, ss.any p = false → findG p k ss = -1
  | [], _, _ => rfl
  | s :: l, k, h => by
    simp only [List.any_cons, Bool.or_eq_false_iff] at h
    rw [findG, if_neg (by simp [h.1])]
    exact findG_neg h.2
theorem findG_nonneg {α : Type} {p : α → Bool} : ∀ {ss : List α} {k : Nat}, ss.any p = true → 0 ≤ findG p k ss
  | s :: l, k, h => by
    rw [findG]
    by_cases e : p s = true
    · rw [if_pos e]; omega
    · rw [if_neg e]
      simp only [List.any_cons, Bool.or_eq_true] at h
      exact findG_nonneg (h.resolve_left e)
theorem findG_append {α : Type} {p : α → Bool} : ∀ {a b : List α} {k : Nat}, a.any p = false → findG p k (a ++ b) = findG p (k + a.length) b
  | [], b, k, _ => by simp
  | s :: l, b, k, h => by
    simp only [List.any_cons, Bool.or_eq_false_iff] at h
    rw [List.cons_append, findG, if_neg (by simp [h.1]), findG_append h.2]
    simp only [List.length_cons]
    congr 1
    omega
theorem Sl.atCred {F : Nat → Prop} {w : World} {a : Option Addr} {len : Nat} {cs : List Cred} (h : Sl RCred 2 F w a len cs) {k : Nat} (hk : k < len) :
    ∃ b off y, a = some ⟨b, off, none⟩ ∧ F b ∧ w.cell? ⟨b, off + k * 2, none⟩ = some (.string y.key) ∧ w.cell? ⟨b, off + k * 2 + 1, none⟩ = some (.string y.name) ∧ y.key.size ≤ 1000000 ∧ y.name.size ≤ 1000000 ∧ cs[k]? = some y ∧ cs = cs.take k ++ y :: cs.drop (k + 1) ∧ cs.take (k + 1) = cs.take k ++ [y] := by
  obtain ⟨b, off, vs, y, ha, hF, h1, h2, ⟨rfl, hz1, hz2⟩, h4, h5, h6⟩ := h.at hk
  exact ⟨b, off, y, ha, hF, by simpa using h2 0 (by simp), by simpa using h2 1 (by simp), hz1, hz2, h4, h5, h6⟩

set_option maxHeartbeats 800000 in
theorem indexCred_any (g : FuncId) (caps : Array Value) (eg : ∀ args w, (callFunc g args).run Tryz.prog w = .ok (.enter g args) w) (p : Cred → Bool)
    (a : Option Addr) (len cap : Nat) (ss : List Cred) (w : World) (hs : Sl RCred 2 (fun _ => True) w a len ss) (hl : len ≤ 1000000) (hp : AnswersC Tryz.prog g caps w p) :
    Calls Tryz.prog 140 #[.slice a len cap, .func (.func g) #[] caps] w fun e w' => e = .returned (.int .i64 (findG p 0 ss)) ∧ All w w' := by
  have hlen := hs.len
  have HP := Lib.hid hp
  clear hp
  go_enter Tryz.func140, Tryz.ntmps140
  go_wp2
  go_loopw [5, 8] (fun _ i wr => ∃ k : Nat, k ≤ len ∧ i = .int .i64 k ∧ (ss.take k).any p = false ∧ All w wr) (fun _ i _ => len - (intOf i).toNat)
  case atStart => exact ⟨0, Nat.zero_le _, rfl, by simp, Kept.refl _ _⟩
  case round =>
    obtain ⟨k, hk, rfl, hnot, hall⟩ := hrel
    by_cases hlt : k < len
    · obtain ⟨b, off, y, ha, -, hc0, hc1, -, -, hy, hsplit, htake⟩ := (hs.keep RCred.ok hall).atCred hlt
      have hltake : (ss.take k).length = k := by simp; omega
      have Hsplit := Lib.hid hsplit
      have Htake := Lib.hid htake
      have Hl := Lib.hid hltake
      have Hnot := Lib.hid hnot
      clear hsplit htake hltake hlen hnot hy
      subst ha
      clear hs
      cases hpy : p y with
      | true =>
        have hfin : findG p 0 ss = k := by rw [Hsplit.out, findG_append Hnot.out, Hl.out, findG, if_pos hpy]; simp
        have Hfin := Lib.hid hfin
        clear hfin
        go_wp2_with fail
        refine (HP.out y _ hall).mono ?_
        rintro e w' ⟨rfl, hw⟩
        rw [hpy]
        go_wp2_with fail
        go_ret
        exact ⟨ret_int' Hfin.out.symm, hall.trans hw⟩
      | false =>
        go_wp2_with fail
        refine (HP.out y _ hall).mono ?_
        rintro e w' ⟨rfl, hw⟩
        rw [hpy]
        go_wp2_with fail
        go_roundw
        case rel => exact ⟨k + 1, by omega, by go_num, by rw [Htake.out, List.any_append, Hnot.out]; simp [hpy], hall.trans hw⟩
        case measure => simp [intOf]; omega
    · have hd : decide ((k : Int) < (len : Int)) = false := by simp; omega
      have hfin : findG p 0 ss = -1 := findG_neg (by rw [List.take_of_length_le (by omega)] at hnot; exact hnot)
      have Hfin := Lib.hid hfin
      clear hfin
      go_wp2
      go_ret
      exact ⟨ret_int' Hfin.out.symm, hall⟩
end Go.Proofs.YtiecaedgphdfdaaGreatDoor
