/- IndexFunc and ContainsFunc of strings; errs, when; Beats, Winner and WinnerOf. -/
import Derived.Test.YteanedcfiellkaaDoorPg
namespace Go.Proofs.YteanedcfiellkaaDoor
open Go.RowKit

/-- Function value g with what it has captured answers p, and leaves what was there as it was. -/
def Answers (P : Program) (g : FuncId) (caps : Array Value) (w : World) (p : ByteArray → Bool) (ss : List ByteArray) : Prop :=
  ∀ y ∈ ss, ∀ wx, All w wx → Calls P g (#[.string y] ++ caps) wx fun e w' => e = .returned (.bool (p y)) ∧ All wx w'

def findFrom (p : ByteArray → Bool) : Nat → List ByteArray → Int
  | _, [] => -1
  | k, s :: l => if p s = true then k else findFrom p (k + 1) l
theorem findFrom_neg {p : ByteArray → Bool} : ∀ {ss : List ByteArray} {k : Nat}, ss.any p = false → findFrom p k ss = -1
  | [], _, _ => rfl
  | s :: l, k, h => by
    simp only [List.any_cons, Bool.or_eq_false_iff] at h
    rw [findFrom, if_neg (by simp [h.1])]
    exact findFrom_neg h.2
theorem findFrom_nonneg {p : ByteArray → Bool} : ∀ {ss : List ByteArray} {k : Nat}, ss.any p = true → 0 ≤ findFrom p k ss
  | s :: l, k, h => by
    rw [findFrom]
    by_cases e : p s = true
    · rw [if_pos e]; omega
    · rw [if_neg e]
      simp only [List.any_cons, Bool.or_eq_true] at h
      exact findFrom_nonneg (h.resolve_left e)
theorem findFrom_append {p : ByteArray → Bool} : ∀ {a b : List ByteArray} {k : Nat}, a.any p = false → findFrom p k (a ++ b) = findFrom p (k + a.length) b
  | [], b, k, _ => by simp
  | s :: l, b, k, h => by
    simp only [List.any_cons, Bool.or_eq_false_iff] at h
    rw [List.cons_append, findFrom, if_neg (by simp [h.1]), findFrom_append h.2]
    simp only [List.length_cons]
    congr 1
    omega

set_option maxHeartbeats 800000 in
theorem indexFunc_any (g : FuncId) (caps : Array Value) (eg : ∀ args w, (callFunc g args).run Tryd.prog w = .ok (.enter g args) w) (p : ByteArray → Bool)
    (a : Option Addr) (len cap : Nat) (ss : List ByteArray) (w : World) (hs : Sl RStr 1 (fun _ => True) w a len ss) (hl : len ≤ 1000000) (hp : Answers Tryd.prog g caps w p ss) :
    Calls Tryd.prog 112 #[.slice a len cap, .func (.func g) #[] caps] w fun e w' => e = .returned (.int .i64 (findFrom p 0 ss)) ∧ All w w' := by
  have hlen := hs.len
  have HP := Lib.hid hp
  clear hp
  go_enter Tryd.func112, Tryd.ntmps112
  go_wp2
  go_loopw [5, 8] (fun _ i wr => ∃ k : Nat, k ≤ len ∧ i = .int .i64 k ∧ (ss.take k).any p = false ∧ All w wr) (fun _ i _ => len - (intOf i).toNat)
  case atStart => exact ⟨0, Nat.zero_le _, rfl, by simp, Kept.refl _ _⟩
  case round =>
    obtain ⟨k, hk, rfl, hnot, hall⟩ := hrel
    by_cases hlt : k < len
    · obtain ⟨b, off, y, ha, -, hck, -, hy, hsplit, htake⟩ := (hs.keep RStr.ok hall).atStr hlt
      have hltake : (ss.take k).length = k := by simp; omega
      have Hsplit := Lib.hid hsplit
      have Htake := Lib.hid htake
      have Hl := Lib.hid hltake
      have Hnot := Lib.hid hnot
      have hmem := List.mem_of_getElem? hy
      clear hsplit htake hltake hlen hnot
      subst ha
      clear hs
      cases hpy : p y with
      | true =>
        have hfin : findFrom p 0 ss = k := by rw [Hsplit.out, findFrom_append Hnot.out, Hl.out, findFrom, if_pos hpy]; simp
        have Hfin := Lib.hid hfin
        clear hfin
        go_wp2_with fail
        refine (HP.out y hmem _ hall).mono ?_
        rintro e w' ⟨rfl, hw⟩
        rw [hpy]
        go_wp2_with fail
        go_ret
        exact ⟨ret_int' Hfin.out.symm, hall.trans hw⟩
      | false =>
        go_wp2_with fail
        refine (HP.out y hmem _ hall).mono ?_
        rintro e w' ⟨rfl, hw⟩
        rw [hpy]
        go_wp2_with fail
        go_roundw
        case rel => exact ⟨k + 1, by omega, by go_num, by rw [Htake.out, List.any_append, Hnot.out]; simp [hpy], hall.trans hw⟩
        case measure => simp [intOf]; omega
    · have hd : decide ((k : Int) < (len : Int)) = false := by simp; omega
      have hfin : findFrom p 0 ss = -1 := findFrom_neg (by rw [List.take_of_length_le (by omega)] at hnot; exact hnot)
      have Hfin := Lib.hid hfin
      clear hfin
      go_wp2
      go_ret
      exact ⟨ret_int' Hfin.out.symm, hall⟩

theorem containsFunc_any (g : FuncId) (caps : Array Value) (eg : ∀ args w, (callFunc g args).run Tryd.prog w = .ok (.enter g args) w) (p : ByteArray → Bool)
    (a : Option Addr) (len cap : Nat) (ss : List ByteArray) (w : World) (hs : Sl RStr 1 (fun _ => True) w a len ss) (hl : len ≤ 1000000) (hp : Answers Tryd.prog g caps w p ss) :
    Calls Tryd.prog 70 #[.slice a len cap, .func (.func g) #[] caps] w fun e w' => e = .returned (.bool (ss.any p)) ∧ All w w' := by
  have hI := Lib.hid (indexFunc_any g caps eg p a len cap ss w hs hl hp)
  clear hp
  cases hx : ss.any p with
  | true =>
    have h0 := findFrom_nonneg (k := 0) hx
    clear hx
    go_enter Tryd.func70, Tryd.ntmps70
    go_wp2_with fail
    refine hI.out.mono ?_
    rintro e w' ⟨rfl, hw⟩
    go_wp2
    go_ret
    exact ⟨rfl, hw⟩
  | false =>
    have h0 := findFrom_neg (k := 0) hx
    clear hx
    go_enter Tryd.func70, Tryd.ntmps70
    go_wp2_with fail
    refine hI.out.mono ?_
    rintro e w' ⟨rfl, hw⟩
    rw [h0]
    go_wp2
    go_ret
    exact ⟨rfl, hw⟩

theorem when_any (is : Bool) (n : Int) (w : World) : Calls Tryd.prog 23 #[.bool is, .int .i64 n] w fun e w' => e = .returned (.int .i64 (if is = true then n else 0)) ∧ w = w' := by
  cases is
  · go_enter Tryd.func23, Tryd.ntmps23
    go_wp2
    go_ret
    exact ⟨rfl, rfl⟩
  · go_enter Tryd.func23, Tryd.ntmps23
    go_wp2
    go_ret
    exact ⟨rfl, rfl⟩

/-- The first error of a list. -/
def firstE : List Int → Int
  | [] => 0
  | e :: l => if e ≠ 0 then e else firstE l
theorem errs_any (a : Option Addr) (len cap : Nat) (es : List Int) (w : World) (hs : Sl RInt 1 (fun _ => True) w a len es) (hl : len ≤ 1000000) :
    Calls Tryd.prog 22 #[.slice a len cap] w fun e w' => e = .returned (.int .i64 (firstE es)) ∧ w = w' := by
  have hlen := hs.len
  go_enter Tryd.func22, Tryd.ntmps22
  go_wp2
  go_loop [4, 7] (fun _ i => ∃ k : Nat, k ≤ len ∧ i = .int .i64 k ∧ firstE es = firstE (es.drop k)) (fun _ i => len - (intOf i).toNat)
  case atStart => exact ⟨0, Nat.zero_le _, rfl, by simp⟩
  case round =>
    obtain ⟨k, hk, rfl, hat⟩ := hrel
    have Hat := Lib.hid hat
    clear hat
    by_cases hlt : k < len
    · obtain ⟨b, off, y, ha, -, hck, hy, -, -⟩ := hs.atInt hlt
      subst ha
      by_cases h0 : y = 0
      · have hb : (y != 0) = false := by simp [h0]
        have hn : firstE es = firstE (es.drop (k + 1)) := by rw [Hat.out, drop_at hy, firstE, if_neg (by simp [h0])]
        have Hn := Lib.hid hn
        clear hn h0 hlen
        go_wp2_with fail
        go_round
        case rel => exact ⟨k + 1, by omega, by go_num, Hn.out⟩
        case measure => simp [intOf]; omega
      · have hb : (y != 0) = true := by simp [h0]
        have hn : firstE es = y := by rw [Hat.out, drop_at hy, firstE, if_pos h0]
        have Hn := Lib.hid hn
        clear hn hlen
        go_wp2_with fail
        go_ret
        exact ⟨ret_int' Hn.out.symm, rfl⟩
    · have hd : decide ((k : Int) < (len : Int)) = false := by simp; omega
      have hfin : firstE es = 0 := by rw [Hat.out, List.drop_of_length_le (by omega)]; rfl
      have Hfin := Lib.hid hfin
      clear hfin
      go_wp2
      go_ret
      exact ⟨ret_int' Hfin.out.symm, rfl⟩
end Go.Proofs.YteanedcfiellkaaDoor
