/- SameSheet: true of what reads alike. -/
import Derived.Test.YtjbaijgdkkccbaaGreatDoorAk
import Derived.Test.YtjbaijgdkkccbaaGreatDoorAc
namespace Go.Proofs.YtjbaijgdkkccbaaGreatDoor
open Go.RowKit

set_option maxHeartbeats 1600000 in
theorem sameQst_same (x : Qst) (a1 : Option Addr) (c1 : Nat) (a2 : Option Addr) (c2 : Nat) (w : World) (h1 : Sl RStr 1 (fun _ => True) w a1 x.opts.length x.opts) (h2 : Sl RStr 1 (fun _ => True) w a2 x.opts.length x.opts) (hl : x.opts.length ≤ 1000000) :
    Calls Tryz.prog 125 #[.agg #[.string x.key, .int .i64 x.kind, .int .i64 x.most, .slice a1 x.opts.length c1, .bool x.needed, .bool x.secret], .agg #[.string x.key, .int .i64 x.kind, .int .i64 x.most, .slice a2 x.opts.length c2, .bool x.needed, .bool x.secret]] w fun e w' => e = .returned (.bool true) ∧ All w w' := by
  have hk : All w ((w.alloc (.cells #[.string x.key, .int .i64 x.kind, .int .i64 x.most, .slice a1 x.opts.length c1, .bool x.needed, .bool x.secret] 146)).alloc (.cells #[.string x.key, .int .i64 x.kind, .int .i64 x.most, .slice a2 x.opts.length c2, .bool x.needed, .bool x.secret] 146)) := (Kept.alloc _ _ _).then_alloc _
  have hE := Lib.hid (equalStr_same a1 _ c1 a2 _ c2 x.opts _ (h1.keep RStr.ok hk) (h2.keep RStr.ok hk) hl)
  clear h1 h2
  have hb1 := heap_old (.cells #[.string x.key, .int .i64 x.kind, .int .i64 x.most, .slice a2 x.opts.length c2, .bool x.needed, .bool x.secret] 146) (heap_at w (.cells #[.string x.key, .int .i64 x.kind, .int .i64 x.most, .slice a1 x.opts.length c1, .bool x.needed, .bool x.secret] 146) _ rfl)
  have hb2 := heap_at (w.alloc (.cells #[.string x.key, .int .i64 x.kind, .int .i64 x.most, .slice a1 x.opts.length c1, .bool x.needed, .bool x.secret] 146)) (.cells #[.string x.key, .int .i64 x.kind, .int .i64 x.most, .slice a2 x.opts.length c2, .bool x.needed, .bool x.secret] 146) (w.heap.size + 1) (by simp)
  have HB1 := Lib.hid hb1
  have HB2 := Lib.hid hb2
  clear hb1 hb2
  go_enter Tryz.func125, Tryz.ntmps125
  go_wp2_with fail
  refine hE.out.mono ?_
  rintro e w2 ⟨rfl, hw2⟩
  have p4 := cell_at (i := 4) (hw2.heap HB1.out trivial) rfl
  have p5 := cell_at (i := 5) (hw2.heap HB1.out trivial) rfl
  have q4 := cell_at (i := 4) (hw2.heap HB2.out trivial) rfl
  have q5 := cell_at (i := 5) (hw2.heap HB2.out trivial) rfl
  go_wp2_with fail
  go_ret
  exact ⟨rfl, hk.trans hw2⟩

set_option maxHeartbeats 1600000 in
theorem equalQst_same (a1 : Option Addr) (l1 c1 : Nat) (a2 : Option Addr) (l2 c2 : Nat) (xs : List Qst) (w : World) (h1 : Sl RQst 6 (fun _ => True) w a1 l1 xs) (h2 : Sl RQst 6 (fun _ => True) w a2 l2 xs) (hl : l1 ≤ 1000000) :
    Calls Tryz.prog 124 #[.slice a1 l1 c1, .slice a2 l2 c2, .func (.func 125) #[] #[]] w fun e w' => e = .returned (.bool true) ∧ All w w' := by
  have e1 := h1.len
  have e2 := h2.len
  have e3 : l2 = l1 := by omega
  subst e3
  clear e1 e2
  have eg : ∀ args w, (callFunc 125 args).run Tryz.prog w = .ok (.enter 125 args) w := enters_of Tryz.func125 (by kernel_rfl) rfl
  go_enter Tryz.func124, Tryz.ntmps124
  go_wp2_with fail
  go_loopw [17] (fun i wr => ∃ k : Nat, k ≤ l2 ∧ i = .int .i64 k ∧ All w wr) (fun i _ => l2 - (intOf i).toNat)
  case atStart => exact ⟨0, Nat.zero_le _, rfl, Kept.refl _ _⟩
  case round =>
    obtain ⟨k, hk, rfl, hall⟩ := hrel
    obtain ⟨wo, rfl⟩ : ∃ wo : World, wo = wr := ⟨_, rfl⟩
    by_cases hlt : k < l2
    · obtain ⟨b1, o1, y1, oa1, oc1, ha1, -, p0, p1, p2, p3, p4, p5, -, hs1, hc1, hy1, -⟩ := (h1.keep RQst.ok hall).atQst hlt
      obtain ⟨b2, o2, y2, oa2, oc2, ha2, -, q0, q1, q2, q3, q4, q5, -, -, hc2, hy2, -⟩ := (h2.keep RQst.ok hall).atQst hlt
      have hy : y2 = y1 := by rw [hy1] at hy2; injection hy2 with hy2; exact hy2.symm
      subst hy
      subst ha1
      subst ha2
      have hcl : y2.opts.length ≤ 1000 := hs1.2
      have hk2 : All wo ((wo.alloc (.cells #[.string y2.key, .int .i64 y2.kind, .int .i64 y2.most, .slice oa1 y2.opts.length oc1, .bool y2.needed, .bool y2.secret] 146)).alloc (.cells #[.string y2.key, .int .i64 y2.kind, .int .i64 y2.most, .slice oa2 y2.opts.length oc2, .bool y2.needed, .bool y2.secret] 146)) := (Kept.alloc _ _ _).then_alloc _
      have hE := Lib.hid (sameQst_same y2 oa1 oc1 oa2 oc2 _ (hc1.keep RStr.ok hk2) (hc2.keep RStr.ok hk2) (by omega))
      have hb1 := lt_of_cell p0
      have hb2 := lt_of_cell q0
      clear h1 h2 hy1 hy2 hc1 hc2 hs1
      go_wp2_with fail
      refine hE.out.mono ?_
      rintro e w2 ⟨rfl, hw2⟩
      go_wp2_with fail
      go_roundw
      case rel => exact ⟨k + 1, by omega, by go_num, (hall.trans hk2).trans hw2⟩
      case measure => simp [intOf]; omega
    · have hd : decide ((k : Int) < (l2 : Int)) = false := by simp; omega
      go_wp2_with fail
      go_ret
      exact ⟨rfl, hall⟩
theorem sameSheet_any (a1 : Option Addr) (c1 : Nat) (a2 : Option Addr) (c2 : Nat) (xs : List Qst) (w : World) (h1 : Sl RQst 6 (fun _ => True) w a1 xs.length xs) (h2 : Sl RQst 6 (fun _ => True) w a2 xs.length xs) (hl : xs.length ≤ 1000000) :
    Calls Tryz.prog 50 #[.slice a1 xs.length c1, .slice a2 xs.length c2] w fun e w' => e = .returned (.bool true) ∧ All w w' := by
  have hE := Lib.hid (equalQst_same a1 _ c1 a2 _ c2 xs w h1 h2 hl)
  clear h1 h2
  go_enter Tryz.func50, Tryz.ntmps50
  go_wp2_with fail
  refine hE.out.mono ?_
  rintro e w2 ⟨rfl, hw2⟩
  go_wp2_with fail
  go_ret
  exact ⟨rfl, hw2⟩
end Go.Proofs.YtjbaijgdkkccbaaGreatDoor
