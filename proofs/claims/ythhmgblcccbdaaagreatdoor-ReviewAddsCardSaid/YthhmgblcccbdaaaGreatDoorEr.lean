/- What the library's tables hold, strconv's too. -/
import Derived.Test.YthhmgblcccbdaaaGreatDoorGa
import Derived.Test.YthhmgblcccbdaaaGreatDoorNb
import Derived.Test.YthhmgblcccbdaaaGreatDoorBv
namespace Go.Proofs.YthhmgblcccbdaaaGreatDoor
open Go.RowKit

structure GlobP (w : World) : Prop where
  g : Glob w
  p : Pow w
theorem GlobP.keep {w w' : World} (h : GlobP w) (k : All w w') : GlobP w' := ⟨h.g.keep k, h.p.keep k⟩
end Go.Proofs.YthhmgblcccbdaaaGreatDoor

/- EqualFunc of reviews: true of what reads alike, where SameReview is. -/
namespace Go.Proofs.YthhmgblcccbdaaaGreatDoor
open Go.RowKit

/-- SameReview is true of two reviews of the same data. -/
def SameR : Prop := ∀ (x : Rev) (aa : Option Addr) (ac : Nat) (ba : Option Addr) (bc : Nat) (w : World), RevSmall x → Sl RAns 4 (fun _ => True) w aa x.answers.length x.answers → Sl RAns 4 (fun _ => True) w ba x.answers.length x.answers → GlobP w →
  Calls Tryz.prog 16 #[.agg (revC x aa ac), .agg (revC x ba bc)] w fun e w' => e = .returned (.bool true) ∧ All w w'

set_option maxRecDepth 100000 in
set_option maxHeartbeats 1600000 in
theorem equalRevs_same (hSR : SameR) (a1 : Option Addr) (l1 c1 : Nat) (a2 : Option Addr) (l2 c2 : Nat) (xs : List Rev) (w : World) (h1 : Sl RRev 7 (fun _ => True) w a1 l1 xs) (h2 : Sl RRev 7 (fun _ => True) w a2 l2 xs) (hl : l1 ≤ 1000000) (hg : GlobP w) :
    Calls Tryz.prog 15 #[.slice a1 l1 c1, .slice a2 l2 c2, .func (.func 16) #[] #[]] w fun e w' => e = .returned (.bool true) ∧ All w w' := by
  have e1 := h1.len
  have e2 := h2.len
  have e3 : l2 = l1 := by omega
  subst e3
  clear e1 e2
  have eg : ∀ args w, (callFunc 16 args).run Tryz.prog w = .ok (.enter 16 args) w := enters_of Tryz.func16 (by kernel_rfl) rfl
  go_enter Tryz.func15, Tryz.ntmps15
  go_wp2_with fail
  go_loopw [17] (fun i wr => ∃ k : Nat, k ≤ l2 ∧ i = .int .i64 k ∧ All w wr) (fun i _ => l2 - (intOf i).toNat)
  case atStart => exact ⟨0, Nat.zero_le _, rfl, Kept.refl _ _⟩
  case round =>
    obtain ⟨k, hk, rfl, hall⟩ := hrel
    obtain ⟨wo, rfl⟩ : ∃ wo : World, wo = wr := ⟨_, rfl⟩
    by_cases hlt : k < l2
    · obtain ⟨b1, o1, y1, aa, ac, ha1, -, p0, p1, p2, p3, p4, p5, p6, hsm, hc1, hy1, -⟩ := (h1.keep RRev.ok hall).atRev hlt
      obtain ⟨b2, o2, y2, ba, bc, ha2, -, q0, q1, q2, q3, q4, q5, q6, -, hc2, hy2, -⟩ := (h2.keep RRev.ok hall).atRev hlt
      have hy : y2 = y1 := by rw [hy1] at hy2; injection hy2 with hy2; exact hy2.symm
      subst hy
      subst ha1
      subst ha2
      have hk2 : All wo ((wo.alloc (.cells (revC y2 aa ac) 45)).alloc (.cells (revC y2 ba bc) 45)) := (Kept.alloc _ _ _).then_alloc _
      have hE := Lib.hid (hSR y2 aa ac ba bc _ hsm (hc1.keep RAns.ok hk2) (hc2.keep RAns.ok hk2) ((hg.keep hall).keep hk2))
      have hb1 := lt_of_cell p0
      have hb2 := lt_of_cell q0
      clear h1 h2 hy1 hy2 hc1 hc2 hsm
      go_wp2_with fail
      refine hE.out.mono ?_
      rintro e w2 ⟨rfl, hw2⟩
      go_wp2_with fail
      go_roundw
      case rel => exact ⟨k + 1, by omega, by go_num, (hall.trans hk2).trans hw2⟩
      case measure => simp [intOf]; omega
    · have hd : decide ((k : Int) < (l2 : Int)) = false := by simp; omega
      go_wp2_with fail
      go_ret
      exact ⟨rfl, hall⟩
end Go.Proofs.YthhmgblcccbdaaaGreatDoor
