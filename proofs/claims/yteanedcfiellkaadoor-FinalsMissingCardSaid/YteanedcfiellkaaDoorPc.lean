/- What CheckBallots and BallotsFault compute, and that both do. -/
import Derived.Test.YteanedcfiellkaaDoorKb
import Derived.Test.YteanedcfiellkaaDoorPb
namespace Go.Proofs.YteanedcfiellkaaDoor
open Go.RowKit

/-- Go's a <= b on strings. -/
def leB (a b : ByteArray) : Bool := Op.bytesLess a.toList b.toList || a.toList == b.toList
/-- The error of keys that must rise, behind p. -/
noncomputable def riseF (p : Option ByteArray) : List ByteArray → Int
  | [] => 0
  | s :: l => if isKeyB s = false then 5 else if (match p with | none => false | some q => leB s q) = true then 7 else riseF (some s) l
theorem riseF_cons (p : Option ByteArray) (s : ByteArray) (l : List ByteArray) : riseF p (s :: l) = if isKeyB s = false then 5 else if (match p with | none => false | some q => leB s q) = true then 7 else riseF (some s) l := rfl
noncomputable def nomF (ss : List ByteArray) : Int := if ss.length = 0 then 3 else if 8 < ss.length then 2 else riseF none ss
def ranksF (noms : List ByteArray) (before : List ByteArray) : List ByteArray → Int
  | [] => 0
  | r :: l => if memB r noms = false then 8 else if memB r before = true then 6 else ranksF noms (before ++ [r]) l
def balsF (noms : List ByteArray) : List Bal → Int
  | [] => 0
  | b :: l => if b.many < 1 ∨ 1000 < b.many then 1 else if ranksF noms [] b.ranks ≠ 0 then ranksF noms [] b.ranks else balsF noms l
def sumF : List Bal → Int
  | [] => 0
  | b :: l => b.many + sumF l
noncomputable def ballotsF (noms : List ByteArray) (bs : List Bal) : Int :=
  if nomF noms ≠ 0 then nomF noms else if 300 < bs.length then 2 else if balsF noms bs ≠ 0 then balsF noms bs else if 1000 < sumF bs then 2 else 0

/-- The walk over keys up to place k has found nothing. -/
def RiseAt (ss : List ByteArray) (k : Nat) : Prop := riseF none ss = riseF (ss.take k).getLast? (ss.drop k)

theorem drop_at {α : Type} {xs : List α} {k : Nat} {y : α} (h : xs[k]? = some y) : xs.drop k = y :: xs.drop (k + 1) := by
  obtain ⟨hk, rfl⟩ := List.getElem?_eq_some_iff.1 h
  exact List.drop_eq_getElem_cons hk
theorem last_take {α : Type} {xs : List α} {k : Nat} {y : α} (h : xs[k]? = some y) : (xs.take (k + 1)).getLast? = some y := by
  obtain ⟨hk, rfl⟩ := List.getElem?_eq_some_iff.1 h
  rw [List.take_succ_eq_append_getElem hk]; exact List.getLast?_concat
theorem RiseAt.name {ss : List ByteArray} {k : Nat} {y : ByteArray} (h : RiseAt ss k) (hy : ss[k]? = some y) (hn : isKeyB y = false) : riseF none ss = 5 := by
  rw [h, drop_at hy, riseF_cons, if_pos hn]
theorem RiseAt.first {ss : List ByteArray} {y : ByteArray} (h : RiseAt ss 0) (hy : ss[0]? = some y) (hn : isKeyB y = true) : RiseAt ss 1 := by
  unfold RiseAt at *
  rw [h, drop_at hy, last_take hy, riseF_cons, if_neg (by simp [hn])]
  simp
theorem RiseAt.order {ss : List ByteArray} {k : Nat} {x y : ByteArray} (h : RiseAt ss (k + 1)) (hx : ss[k]? = some x) (hy : ss[k + 1]? = some y) (hn : isKeyB y = true) (hl : leB y x = true) : riseF none ss = 7 := by
  rw [h, drop_at hy, last_take hx, riseF_cons, if_neg (by simp [hn])]
  exact if_pos hl
theorem RiseAt.next {ss : List ByteArray} {k : Nat} {x y : ByteArray} (h : RiseAt ss (k + 1)) (hx : ss[k]? = some x) (hy : ss[k + 1]? = some y) (hn : isKeyB y = true) (hl : leB y x = false) : RiseAt ss (k + 1 + 1) := by
  unfold RiseAt at *
  rw [h, drop_at hy, last_take hx, last_take hy, riseF_cons, if_neg (by simp [hn])]
  exact if_neg (by simp [hl])

set_option maxHeartbeats 800000 in
theorem risingFault_any {F : Nat → Prop} (a : Option Addr) (len cap : Nat) (ss : List ByteArray) (w : World) (hs : Sl RStr 1 F w a len ss) (hl : len ≤ 1000000) :
    Calls Tryd.prog 110 #[.slice a len cap] w fun e w' => e = .returned (.int .i64 (riseF none ss)) ∧ w = w' := by
  have hlen := hs.len
  go_enter Tryd.func110, Tryd.ntmps110
  go_wp2
  go_loop [3, 4, 7] (fun _ _ i => ∃ k : Nat, k ≤ len ∧ i = .int .i64 k ∧ RiseAt ss k) (fun _ _ i => len - (intOf i).toNat)
  case atStart => exact ⟨0, Nat.zero_le _, rfl, by simp [RiseAt]⟩
  case round =>
    obtain ⟨k, hk, rfl, hat⟩ := hrel
    by_cases hlt : k < len
    · obtain ⟨b, off, y, ha, hF, hck, hyz, hy, -, -⟩ := hs.atStr hlt
      subst ha
      have hck0 : k = 0 → w.cell? ⟨b, off, none⟩ = some (.string y) := fun e => by rw [e, Nat.add_zero] at hck; exact hck
      cases hkey : isKeyB y with
      | false =>
        have hfin := Lib.hid (hat.name hy hkey)
        clear hck0
        go_wp2_with fail
        refine (isKey_any y _ (by omega)).mono ?_
        rintro e w' ⟨rfl, rfl⟩
        rw [hkey]
        go_wp2_with fail
        go_ret
        exact ⟨ret_int' hfin.out.symm, rfl⟩
      | true =>
        cases k with
        | zero =>
          have hnx := hat.first hy hkey
          have hck1 := hck0 rfl
          clear hck0
          go_wp2_with fail
          refine (isKey_any y _ (by omega)).mono ?_
          rintro e w' ⟨rfl, rfl⟩
          rw [hkey]
          go_wp2_with fail
          go_round
          case rel => exact ⟨1, by omega, rfl, hnx⟩
          case measure => simp [intOf]; omega
        | succ k =>
          clear hck0
          obtain ⟨b', off', x, ha', _, hcx, hxz, hx, -, -⟩ := hs.atStr (k := k) (by omega)
          cases ha'
          cases hle : leB y x with
          | true =>
            have hfin := Lib.hid (hat.order hx hy hkey hle)
            have hle' : (Op.bytesLess y.toList x.toList || y.toList == x.toList) = true := hle
            go_wp2_with fail
            refine (isKey_any y _ (by omega)).mono ?_
            rintro e w' ⟨rfl, rfl⟩
            rw [hkey]
            go_wp2_with fail
            go_ret
            exact ⟨ret_int' hfin.out.symm, rfl⟩
          | false =>
            have hnx := hat.next hx hy hkey hle
            have hle' : (Op.bytesLess y.toList x.toList || y.toList == x.toList) = false := hle
            go_wp2_with fail
            refine (isKey_any y _ (by omega)).mono ?_
            rintro e w' ⟨rfl, rfl⟩
            rw [hkey]
            go_wp2_with fail
            go_round
            case rel => exact ⟨k + 1 + 1, by omega, by go_num, hnx⟩
            case measure => simp [intOf]; omega
    · have hd : decide ((k : Int) < (len : Int)) = false := by simp; omega
      have hfin : riseF none ss = 0 := by
        rw [hat, List.drop_of_length_le (by omega)]; rfl
      have Hfin := Lib.hid hfin
      clear hfin
      go_wp2
      go_ret
      exact ⟨ret_int' Hfin.out.symm, rfl⟩
end Go.Proofs.YteanedcfiellkaaDoor
