/- credit, and ContainsFunc over credits with the reference's closure. -/
import Derived.Test.YtiecaedgphdfdaaGreatDoorGc
namespace Go.Proofs.YtiecaedgphdfdaaGreatDoor
open Go.RowKit

def hasKey (key : ByteArray) (c : Cred) : Bool := decide (c.key = key)
theorem hmfC : ∀ (fn : Fn) (first cap : Array Value) (w : World), (Instr.makeFunc fn first cap).run Tryz.prog w = .ok (.func fn first cap) w := fun _ _ _ _ => rfl

theorem credit1_any (kp : Nat) (key : ByteArray) (y : Cred) (w : World) (ck : w.cell? ⟨kp, 0, none⟩ = some (.string key)) :
    Calls Tryz.prog 186 #[.agg #[.string y.key, .string y.name], .pointer (some ⟨kp, 0, none⟩)] w fun e w' => e = .returned (.bool (hasKey key y)) ∧ All w w' := by
  have hkp := lt_of_cell ck
  dsimp only at hkp
  by_cases h : y.key = key
  · have hb : hasKey key y = true := by simp [hasKey, h]
    have e1 : (y.key.toList == key.toList) = true := by simp [h]
    rw [hb]
    clear hb h
    go_enter Tryz.func186, Tryz.ntmps186
    go_wp2_with fail
    go_ret
    exact ⟨by simp, Kept.alloc _ _ _⟩
  · have hb : hasKey key y = false := by simp [hasKey, h]
    have e1 : (y.key.toList == key.toList) = false := by simp; exact fun e => h (bytes_ext e)
    rw [hb]
    clear hb h
    go_enter Tryz.func186, Tryz.ntmps186
    go_wp2_with fail
    go_ret
    exact ⟨by simp, Kept.alloc _ _ _⟩

theorem credit_any (a : Option Addr) (len cap : Nat) (cs : List Cred) (key : ByteArray) (w : World) (hs : Sl RCred 2 (fun _ => True) w a len cs) (hl : len ≤ 1000000) :
    Calls Tryz.prog 152 #[.slice a len cap, .string key] w fun e w' => e = .returned (.int .i64 (findG (hasKey key) 0 cs)) ∧ All w w' := by
  have hk1 : All w (w.alloc (.cells #[.string key] 9)) := Kept.alloc _ _ _
  have ha := heap_at w (.cells #[.string key] 9) _ rfl
  have hans : AnswersC Tryz.prog 186 #[.pointer (some ⟨w.heap.size, 0, none⟩)] (w.alloc (.cells #[.string key] 9)) (hasKey key) := fun y wx hwx =>
    credit1_any _ key y wx (hwx.cell (cell_at ha rfl) trivial)
  have eg : ∀ args w, (callFunc 186 args).run Tryz.prog w = .ok (.enter 186 args) w := enters_of Tryz.func186 (by kernel_rfl) rfl
  have HF := Lib.hid (indexCred_any 186 _ eg (hasKey key) a len cap cs _ (hs.keep RCred.ok hk1) hl hans)
  have hmf' := hmfC
  clear hans eg ha hs
  go_enter Tryz.func152, Tryz.ntmps152
  go_wp2_with fail
  refine HF.out.mono ?_
  rintro e w2 ⟨rfl, hw2⟩
  go_wp2_with fail
  go_ret
  exact ⟨rfl, hk1.trans hw2⟩
end Go.Proofs.YtiecaedgphdfdaaGreatDoor
