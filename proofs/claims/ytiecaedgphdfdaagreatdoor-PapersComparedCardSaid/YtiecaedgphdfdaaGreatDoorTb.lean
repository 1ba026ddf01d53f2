/- Index and Contains of numbers. -/
import Derived.Test.YtiecaedgphdfdaaGreatDoorZa
import Derived.Test.YtiecaedgphdfdaaGreatDoorProg
import Derived.Test.YtiecaedgphdfdaaGreatDoorKa
namespace Go.Proofs.YtiecaedgphdfdaaGreatDoor
open Go.RowKit

def idxI (x : Int) : Nat → List Int → Int
  | _, [] => -1
  | k, y :: l => if y = x then k else idxI x (k + 1) l
theorem idxI_neg {x : Int} : ∀ {l : List Int} {k : Nat}, x ∉ l → idxI x k l = -1
  | [], _, _ => rfl
  | y :: l, k, h => by
    rw [idxI, if_neg (fun e => h (by simp [e]))]
    exact idxI_neg (fun hm => h (by simp [hm]))
theorem idxI_nonneg {x : Int} : ∀ {l : List Int} {k : Nat}, x ∈ l → 0 ≤ idxI x k l
  | y :: l, k, h => by
    rw [idxI]
    by_cases e : y = x
    · rw [if_pos e]; omega
    · rw [if_neg e]
      exact idxI_nonneg ((List.mem_cons.1 h).resolve_left (fun h => e h.symm))
theorem idxI_append {x : Int} : ∀ {a b : List Int} {k : Nat}, x ∉ a → idxI x k (a ++ b) = idxI x (k + a.length) b
  | [], b, k, _ => by simp
  | y :: l, b, k, h => by
    rw [List.cons_append, idxI, if_neg (fun e => h (by simp [e])), idxI_append (fun hm => h (by simp [hm]))]
    simp only [List.length_cons]
    congr 1
    omega
def memI (x : Int) (l : List Int) : Bool := decide (x ∈ l)
theorem memI_true {x : Int} {l : List Int} (h : x ∈ l) : memI x l = true := by simp [memI, h]
theorem memI_false {x : Int} {l : List Int} (h : x ∉ l) : memI x l = false := by simp [memI, h]

set_option maxHeartbeats 800000 in
theorem indexI_any {F : Nat → Prop} (a : Option Addr) (len cap : Nat) (ss : List Int) (x : Int) (w : World) (hs : Sl RInt 1 F w a len ss) (hl : len ≤ 1000000) :
    Calls Tryz.prog 127 #[.slice a len cap, .int .i64 x] w fun e w' => e = .returned (.int .i64 (idxI x 0 ss)) ∧ w = w' := by
  have hlen := hs.len
  go_enter Tryz.func127, Tryz.ntmps127
  go_wp2
  go_loop [5, 8] (fun _ i => ∃ k : Nat, k ≤ len ∧ i = .int .i64 k ∧ x ∉ ss.take k) (fun _ i => len - (intOf i).toNat)
  case atStart => exact ⟨0, Nat.zero_le _, rfl, by simp⟩
  case round =>
    obtain ⟨k, hk, rfl, hnot⟩ := hrel
    by_cases hlt : k < len
    · obtain ⟨b, off, y, ha, _, hck, -, hsplit, htake⟩ := hs.atInt hlt
      have hltake : (ss.take k).length = k := by simp; omega
      have Hsplit := Lib.hid hsplit
      have Htake := Lib.hid htake
      have Hl := Lib.hid hltake
      clear hsplit htake hltake hlen
      subst ha
      clear hs
      by_cases hxy : x = y
      · have hfin : idxI x 0 ss = k := by rw [Hsplit.out, idxI_append hnot, Hl.out, idxI, if_pos hxy.symm]; simp
        have Hfin := Lib.hid hfin
        have he : (x == y) = true := by simp [hxy]
        clear hfin hxy
        go_wp2
        go_ret
        exact ⟨ret_int' Hfin.out.symm, rfl⟩
      · have he : (x == y) = false := by simp [hxy]
        have he2 : (y == x) = false := by simp; exact fun e => hxy e.symm
        have Hxy := Lib.hid hxy
        clear hxy
        go_wp2
        go_round
        case rel => exact ⟨k + 1, by omega, by go_num, by rw [Htake.out]; simp; exact ⟨hnot, Hxy.out⟩⟩
        case measure => simp [intOf]; omega
    · have hd : decide ((k : Int) < (len : Int)) = false := by simp; omega
      have hfin : idxI x 0 ss = -1 := idxI_neg (by rw [List.take_of_length_le (by omega)] at hnot; exact hnot)
      have Hfin := Lib.hid hfin
      clear hfin
      go_wp2
      go_ret
      exact ⟨ret_int' Hfin.out.symm, rfl⟩

theorem containsI_any {F : Nat → Prop} (a : Option Addr) (len cap : Nat) (ss : List Int) (x : Int) (w : World) (hs : Sl RInt 1 F w a len ss) (hl : len ≤ 1000000) :
    Calls Tryz.prog 75 #[.slice a len cap, .int .i64 x] w fun e w' => e = .returned (.bool (memI x ss)) ∧ w = w' := by
  by_cases hx : x ∈ ss
  · have h0 := idxI_nonneg (k := 0) hx
    rw [memI_true hx]
    go_enter Tryz.func75, Tryz.ntmps75
    go_wp2_with fail
    refine (indexI_any _ _ _ ss x _ hs hl).mono ?_
    rintro e w' ⟨rfl, rfl⟩
    go_wp2
    go_ret
    exact ⟨rfl, rfl⟩
  · have h0 := idxI_neg (k := 0) hx
    rw [memI_false hx]
    go_enter Tryz.func75, Tryz.ntmps75
    go_wp2_with fail
    refine (indexI_any _ _ _ ss x _ hs hl).mono ?_
    rintro e w' ⟨rfl, rfl⟩
    rw [h0]
    go_wp2
    go_ret
    exact ⟨rfl, rfl⟩
end Go.Proofs.YtiecaedgphdfdaaGreatDoor
