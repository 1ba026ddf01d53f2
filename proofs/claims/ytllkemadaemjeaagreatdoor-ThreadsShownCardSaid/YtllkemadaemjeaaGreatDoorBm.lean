/- The generator pairs10. -/
import Derived.Test.YtllkemadaemjeaaGreatDoorSc
import Derived.Test.YtllkemadaemjeaaGreatDoorZc
import Derived.Test.YtllkemadaemjeaaGreatDoorBe
import Derived.Test.YtllkemadaemjeaaGreatDoorBc
import Derived.Test.YtllkemadaemjeaaGreatDoorZm
import Derived.Test.YtllkemadaemjeaaGreatDoorSa
import Derived.Laws.AppendOwnNone
import Derived.Deep.DrawnRows
namespace Go.Proofs.YtllkemadaemjeaaGreatDoor
open Go.RowKit

def IsPairs (B mx : Nat) (v : Value) (w : World) : Prop := ∃ ps : List Pair2, ps.length ≤ mx ∧ Acc RPair 2 101 (fun _ => False) B w v ps

set_option maxRecDepth 100000 in
set_option maxHeartbeats 6400000 in
theorem pairs10_any (σ : St) (n : Nat) (ap : Option Addr) (lp cp : Nat) (pp : List ByteArray) (aq : Option Addr) (lq cq : Nat) (qq : List ByteArray) (M : Nat) (w : World) (hs : Str σ w n) (hn : n ≤ 4611686018427300000)
    (hpap : Sl RStr 1 (fun k => k ≠ σ.b) w ap lp pp) (hppl : Sl RStr 1 (fun k => k ≠ σ.b) w aq lq qq) (h1 : 1 ≤ lp) (h2 : lp ≤ 100) (h3 : 1 ≤ lq) (h4 : lq ≤ 100) (hM : M ≤ 20) :
    Calls Tryz.prog 53 #[.pointer (some ⟨σ.b, 0, none⟩), .slice ap lp cp, .slice aq lq cq, .int .i64 M] w (StPost σ n 40 w (IsPairs w.heap.size 20)) := by
  have hlt := hs.lt
  obtain ⟨bp, op, hap, hFp, hrowp⟩ := hpap.strs (by omega)
  obtain ⟨bq, oq, haq, hFq, hrowq⟩ := hppl.strs (by omega)
  subst hap
  subst haq
  have HP := Lib.hid hrowp
  have HQ := Lib.hid hrowq
  have hd1 : decide ((0 : Int) < (lp : Int)) = true := by simp; omega
  have hd2 : decide ((0 : Int) < (lq : Int)) = true := by simp; omega
  have hd1' : decide (0 < lp) = true := by simp; omega
  have hd2' : decide (0 < lq) = true := by simp; omega
  clear hrowp hrowq hpap hppl
  go_enter Tryz.func53, Tryz.ntmps53
  go_wp2_with fail
  go_loopw [9, 11] (fun o i wr => ∃ k : Nat, k ≤ M ∧ i = .int .i64 k ∧ ∃ (ps : List Pair2) (n' : Nat), ps.length ≤ k ∧ Acc RPair 2 101 (fun _ => False) w.heap.size wr o ps ∧ Str σ wr n' ∧ n ≤ n' ∧ n' ≤ n + 2 * k ∧ But σ.b w wr) (fun _ i _ => M - (intOf i).toNat)
  case atStart => exact ⟨0, Nat.zero_le _, rfl, [], n, Nat.le_refl _, Acc.nil _ _ _ _ _ _, hs, Nat.le_refl _, by omega, Kept.refl _ _⟩
  case round =>
    obtain ⟨k, hk, rfl, ps, n', hpl, hacc, hs', hn1, hn2, hwr⟩ := hrel
    obtain ⟨wo, rfl⟩ : ∃ wo : World, wo = wr := ⟨_, rfl⟩
    by_cases hlt2 : k < M
    · have tokA : True := trivial
      have tokB : True := trivial
      have hbase := hwr.size
      have hplb : ps.length + 1 ≤ 1000000000 := by omega
      have hlt3 := hs'.lt
      go_wp2_with fail
      go_region_law (first
        | (refine step_append1 RPair.ok _ (by rfl) _ _ 28 (by rfl) w.heap.size 101 (.agg #[.string ⟨#[]⟩, .string ⟨#[]⟩]) 2 32 Tryz.underlying28 (by kernel_rfl) rfl (by decide) (fun _ => False) u9 ps (by rfl) (hacc2.keepAll RPair.ok (by repeat (first | exact Kept.refl _ _ | refine Kept.then_drew ?_ | refine Kept.then_drewN ?_ _ | refine Kept.then_alloc ?_ _))) ⟨w7.heap.size, 0, none⟩ 1 [.string y1, .string y2] (by rfl) rfl (World.news_of_block (cs := #[.string y1, .string y2]) (t := 101) (fr := (0, 0)) (heap_alloc_new w7 _)) (by simp [Value.oneCell']) ⟨y1, y2, hz1, hz2⟩ rfl hplb (by decide) (by have := hb2.size; simp; omega) ?_; intro p8 c8 w8 hacc8 hgrow hat8)
        | (go_simp; go_at_call 54; have _t := tokA; refine (next_any σ n' lp _ (hs'.keep (by repeat (first | exact Kept.refl _ _ | refine Kept.then_drew ?_ | refine Kept.then_drewN ?_ _ | refine Kept.then_alloc ?_ _))) (by omega) (by omega) (by omega)).mono ?_; rintro e w6 ⟨v, n6, rfl, ⟨r1, rfl, hr1, hr2⟩, hn3, hn4, hs6, hb6⟩; obtain ⟨i1, rfl⟩ := Int.eq_ofNat_of_zero_le hr1; have hb1 : But σ.b w w6 := (hwr.trans (Kept.all ((by repeat (first | exact Kept.refl _ _ | refine Kept.then_drew ?_ | refine Kept.then_drewN ?_ _ | refine Kept.then_alloc ?_ _)) : All wo _))).trans hb6; have hacc1 := (hacc.keepAll RPair.ok ((by repeat (first | exact Kept.refl _ _ | refine Kept.then_drew ?_ | refine Kept.then_drewN ?_ _ | refine Kept.then_alloc ?_ _)) : All wo _)).keep RPair.ok hb6 (fun _ h => h.elim) (fun k hk => by have := (hacc.lt k hk).1; omega); obtain ⟨y1, hy1⟩ : ∃ y1, y1 = pp.getD i1 ByteArray.empty := ⟨_, rfl⟩; have cy1 := hb1.cell (HP.out i1 (by omega)).1 hFp; have hz1 := (HP.out i1 (by omega)).2; rw [← hy1] at cy1 hz1; have HY1 := Lib.hid hy1; clear tokA hy1)
        | (go_simp; go_at_call 54; have _t := tokB; refine (next_any σ n6 lq _ (hs6.keep (by repeat (first | exact Kept.refl _ _ | refine Kept.then_drew ?_ | refine Kept.then_drewN ?_ _ | refine Kept.then_alloc ?_ _))) (by omega) (by omega) (by omega)).mono ?_; rintro e w7 ⟨v, n7, rfl, ⟨r2, rfl, hr3, hr4⟩, hn5, hn6', hs7, hb7⟩; obtain ⟨i2, rfl⟩ := Int.eq_ofNat_of_zero_le hr3; have hb2 : But σ.b w w7 := (hb1.trans (Kept.all ((by repeat (first | exact Kept.refl _ _ | refine Kept.then_drew ?_ | refine Kept.then_drewN ?_ _ | refine Kept.then_alloc ?_ _)) : All w6 _))).trans hb7; have hacc2 := (hacc1.keepAll RPair.ok ((by repeat (first | exact Kept.refl _ _ | refine Kept.then_drew ?_ | refine Kept.then_drewN ?_ _ | refine Kept.then_alloc ?_ _)) : All w6 _)).keep RPair.ok hb7 (fun _ h => h.elim) (fun k hk => by have := (hacc1.lt k hk).1; omega); obtain ⟨y2, hy2⟩ : ∃ y2, y2 = qq.getD i2 ByteArray.empty := ⟨_, rfl⟩; have cy2 := hb2.cell (HQ.out i2 (by omega)).1 hFq; have hz2 := (HQ.out i2 (by omega)).2; have cy1' := hb2.cell (HP.out i1 (by omega)).1 hFp; rw [← HY1.out] at cy1'; rw [← hy2] at cy2 hz2; clear tokB hy2))
      all_goals
        have hkr := Lib.hid (fun k (hk : u9.ownBlock = some k) => (hacc2.lt k hk).1)
        have hk8 : Kept (fun k => u9.ownBlock ≠ some k) w7 w8 := (Kept.grown (Kept.all ((by repeat (first | exact Kept.refl _ _ | refine Kept.then_drew ?_ | refine Kept.then_drewN ?_ _ | refine Kept.then_alloc ?_ _)) : All w7 _)) hgrow (fun k hk => Or.inr (fun h => h hk)))
        have hw8 : But σ.b w w8 := hb2.trans2 hk8 (fun i hi _ e => by have := hkr.out i e; omega)
        have hs8 := hs7.kept hk8 (fun k hk e => by have := hkr.out k e; omega)
        clear hgrow hat8 hacc2 hacc1 hacc hk8 hb2 hb1 hb7 hb6 hs7 hs6 hs' hwr cy1 cy1' cy2
        go_wp2_with fail
        go_roundw
        case rel => exact ⟨k + 1, by omega, by go_num, _, n7, by simp; omega, hacc8, hs8, by omega, by omega, hw8⟩
        case measure => simp [intOf]; omega
    · have hdk : decide ((k : Int) < (M : Int)) = false := by simp; omega
      have hkr : ∀ k, u9.ownBlock = some k → w.heap.size ≤ k := fun k hk => (hacc.lt k hk).1
      have HKR := Lib.hid hkr
      clear hkr
      go_wp2_with fail
      refine (sortP_any u9 ps _ hacc (by omega)).mono ?_
      rintro e w3 ⟨rfl, qs, hql, hacc3, hg3⟩
      have hk3 : Kept (fun k => u9.ownBlock ≠ some k) wo w3 := ⟨hg3.os, hg3.tape, hg3.output, hg3.size, fun k hk hf => hg3.block k hk (fun e => hf e.symm)⟩
      go_wp2_with fail
      refine (compactP_any _ qs _ hacc3 (by omega)).mono ?_
      rintro e w4 ⟨v4, rs, rfl, hrl, hacc4, hk4, -⟩
      have hk5 := hk3.trans hk4
      have hw5 : But σ.b w w4 := hwr.trans2 hk5 (fun i hi _ e => by have := HKR.out i e; omega)
      have hs5 := hs'.kept hk5 (fun k hk e => by have := HKR.out k e; omega)
      obtain ⟨a4, c4, rfl, -⟩ := hacc4.form
      clear hacc hacc3 hg3 hk3 hk4 hk5 hs' hwr
      go_wp2_with fail
      go_ret
      exact ⟨_, n', rfl, ⟨rs, by omega, hacc4⟩, hn1, by omega, hs5, hw5⟩
end Go.Proofs.YtllkemadaemjeaaGreatDoor

/- The generator RightBoard. -/
namespace Go.Proofs.YtllkemadaemjeaaGreatDoor
open Go.RowKit

theorem Acc.strLit {T : TypeId} {F : Nat → Prop} {B : Nat} {w : World} {b : Nat} {ss : List ByteArray} {c : Array Value} (hb : w.heap[b]? = some (.cells c T (0, 0))) (hc : c = (ss.map Value.string).toArray) (hB : B ≤ b) (hl : 0 < ss.length) (hm : ss.length ≤ 1000000) (hz : ∀ s ∈ ss, s.size ≤ 1000000) :
    Acc RStr 1 T F B w (.slice (some ⟨b, 0, none⟩) ss.length ss.length) ss := by
  subst hc
  refine ⟨ss.map Value.string, ⟨by simp, .inr ⟨b, ss.length, _, rfl, hB, hb, Nat.le_refl _, by unfold maxLen; omega, by simp, ?_⟩⟩, fun i hi => ⟨?_, hz _ (List.getElem_mem hi)⟩⟩
  · rw [List.take_of_length_le (by simp)]
  · have hi' : i < (ss.map Value.string).length := by simpa using hi
    rw [Nat.mul_one, List.drop_eq_getElem_cons hi', List.take_succ_cons, List.take_zero, List.getElem_map]

/-- A board of the call's own. -/
def IsBoard (m B : Nat) (v : Value) (w : World) : Prop :=
  ∃ (v0 v1 v2 v3 : Value) (b : Board4), v = .agg #[v0, v1, v2, v3] ∧ b.pairs.length ≤ m ∧ b.barred.length ≤ m ∧ b.heads.length ≤ m ∧ b.turns.length ≤ m ∧
    Acc RPair 2 101 (fun _ => False) B w v0 b.pairs ∧ Acc RPair 2 101 (fun _ => False) B w v1 b.barred ∧ Acc RStr 1 9 (fun _ => False) B w v2 b.heads ∧ Acc RTurn 3 121 (fun _ => False) B w v3 b.turns ∧
    ∀ k, v0.ownBlock = some k → v1.ownBlock ≠ some k

set_option maxRecDepth 100000 in
set_option maxHeartbeats 12800000 in
theorem rightBoard_any (σ : St) (n : Nat) (w : World) (hs : Str σ w n) (hn : n ≤ 4611686018427200000) :
    Calls Tryz.prog 65 #[.pointer (some ⟨σ.b, 0, none⟩)] w (StPost σ n 200 w (IsBoard 20 w.heap.size)) := by
  have hlt := hs.lt
  have hmm := @run_makeMap Tryz.prog
  go_enter Tryz.func65, Tryz.ntmps65
  go_wp2_with fail

  have g0 := heap_old (.cells #[.slice none 0 0, .slice (some ⟨w.heap.size + 1, 0, none⟩) 1 1, .slice (some ⟨w.heap.size + 1 + 1, 0, none⟩) 2 2] 26) (heap_old (.cells #[.string ⟨#[97, 110, 110]⟩, .string ⟨#[101, 118, 101]⟩] 9) (heap_old (.cells #[.string ⟨#[101, 118, 101]⟩] 9) (heap_at w (.cells #[.slice none 0 0, .slice none 0 0, .slice none 0 0, .slice none 0 0] 50) _ rfl)))
  have g1 := heap_old (.cells #[.slice none 0 0, .slice (some ⟨w.heap.size + 1, 0, none⟩) 1 1, .slice (some ⟨w.heap.size + 1 + 1, 0, none⟩) 2 2] 26) (heap_old (.cells #[.string ⟨#[97, 110, 110]⟩, .string ⟨#[101, 118, 101]⟩] 9) (heap_at (w.alloc (.cells #[.slice none 0 0, .slice none 0 0, .slice none 0 0, .slice none 0 0] 50)) (.cells #[.string ⟨#[101, 118, 101]⟩] 9) (w.heap.size + 1) (by simp)))
  have g2 := heap_old (.cells #[.slice none 0 0, .slice (some ⟨w.heap.size + 1, 0, none⟩) 1 1, .slice (some ⟨w.heap.size + 1 + 1, 0, none⟩) 2 2] 26) (heap_at ((w.alloc (.cells #[.slice none 0 0, .slice none 0 0, .slice none 0 0, .slice none 0 0] 50)).alloc (.cells #[.string ⟨#[101, 118, 101]⟩] 9)) (.cells #[.string ⟨#[97, 110, 110]⟩, .string ⟨#[101, 118, 101]⟩] 9) (w.heap.size + 1 + 1) (by simp))
  have g3 := heap_at (((w.alloc (.cells #[.slice none 0 0, .slice none 0 0, .slice none 0 0, .slice none 0 0] 50)).alloc (.cells #[.string ⟨#[101, 118, 101]⟩] 9)).alloc (.cells #[.string ⟨#[97, 110, 110]⟩, .string ⟨#[101, 118, 101]⟩] 9)) (.cells #[.slice none 0 0, .slice (some ⟨w.heap.size + 1, 0, none⟩) 1 1, .slice (some ⟨w.heap.size + 1 + 1, 0, none⟩) 2 2] 26) (w.heap.size + 1 + 1 + 1) (by simp)
  have hk1 : All w ((((w.alloc (.cells #[.slice none 0 0, .slice none 0 0, .slice none 0 0, .slice none 0 0] 50)).alloc (.cells #[.string ⟨#[101, 118, 101]⟩] 9)).alloc (.cells #[.string ⟨#[97, 110, 110]⟩, .string ⟨#[101, 118, 101]⟩] 9)).alloc (.cells #[.slice none 0 0, .slice (some ⟨w.heap.size + 1, 0, none⟩) 1 1, .slice (some ⟨w.heap.size + 1 + 1, 0, none⟩) 2 2] 26)) := (((Kept.alloc _ _ _).then_alloc _).then_alloc _).then_alloc _
  have hw1s : ((((w.alloc (.cells #[.slice none 0 0, .slice none 0 0, .slice none 0 0, .slice none 0 0] 50)).alloc (.cells #[.string ⟨#[101, 118, 101]⟩] 9)).alloc (.cells #[.string ⟨#[97, 110, 110]⟩, .string ⟨#[101, 118, 101]⟩] 9)).alloc (.cells #[.slice none 0 0, .slice (some ⟨w.heap.size + 1, 0, none⟩) 1 1, .slice (some ⟨w.heap.size + 1 + 1, 0, none⟩) 2 2] 26)).heap.size = w.heap.size + 4 := by simp
  have HW1 := Lib.hid hw1s
  have hs1 := hs.keep hk1
  clear hs hw1s
  generalize (((w.alloc (.cells #[.slice none 0 0, .slice none 0 0, .slice none 0 0, .slice none 0 0] 50)).alloc (.cells #[.string ⟨#[101, 118, 101]⟩] 9)).alloc (.cells #[.string ⟨#[97, 110, 110]⟩, .string ⟨#[101, 118, 101]⟩] 9)).alloc (.cells #[.slice none 0 0, .slice (some ⟨w.heap.size + 1, 0, none⟩) 1 1, .slice (some ⟨w.heap.size + 1 + 1, 0, none⟩) 2 2] 26) = w1 at *
  refine (next_any σ n 3 _ hs1 (by omega) (by omega) (by omega)).mono ?_
  rintro e w2 ⟨v, n2, rfl, ⟨r, rfl, hr1, hr2⟩, hn1, hn2, hs2, hb2⟩
  obtain ⟨i, rfl⟩ := Int.eq_ofNat_of_zero_le hr1
  have hi3 : i < 3 := by omega
  have hw2 : But σ.b w w2 := (Kept.all hk1).trans hb2
  have hsz2 := hb2.size
  have k0 := hb2.heap g0 (by omega)
  have k1 := hb2.heap g1 (by omega)
  have k2 := hb2.heap g2 (by omega)
  have k3 := hb2.heap g3 (by omega)
  obtain ⟨a2, l2, c2, hs, hcv, hacc2, hl2, hl22⟩ : ∃ a2 l2 c2 hs, w2.cell? ⟨w.heap.size + 1 + 1 + 1, i, none⟩ = some (.slice a2 l2 c2) ∧ Acc RStr 1 9 (fun _ => False) w.heap.size w2 (.slice a2 l2 c2) hs ∧ l2 = hs.length ∧ hs.length ≤ 2 := by
    have h3 : i = 0 ∨ i = 1 ∨ i = 2 := by omega
    rcases h3 with rfl | rfl | rfl
    · exact ⟨none, 0, 0, [], cell_at (i := 0) k3 rfl, Acc.nil _ _ _ _ _ _, rfl, by simp⟩
    · exact ⟨some ⟨w.heap.size + 1, 0, none⟩, 1, 1, [⟨#[101, 118, 101]⟩], cell_at (i := 1) k3 rfl, Acc.strLit (ss := [⟨#[101, 118, 101]⟩]) k1 rfl (by omega) (by simp) (by simp) (by decide), rfl, by simp⟩
    · exact ⟨some ⟨w.heap.size + 1 + 1, 0, none⟩, 2, 2, [⟨#[97, 110, 110]⟩, ⟨#[101, 118, 101]⟩], cell_at (i := 2) k3 rfl, Acc.strLit (ss := [⟨#[97, 110, 110]⟩, ⟨#[101, 118, 101]⟩]) k2 rfl (by omega) (by simp) (by simp) (by decide), rfl, by simp⟩
  have HL2 := Lib.hid hl2
  clear hl2 g0 g1 g2 g3 k1 k2 k3 hs1 hb2 hk1 hr1 hr2
  have hbb := heap_at w2 (.cells #[.slice none 0 0, .slice none 0 0, .slice a2 l2 c2, .slice none 0 0] 50) _ rfl
  have k0' := heap_old (.cells #[.slice none 0 0, .slice none 0 0, .slice a2 l2 c2, .slice none 0 0] 50) k0
  have hs3 := hs2.keep (Kept.alloc (fun _ => True) w2 (.cells #[.slice none 0 0, .slice none 0 0, .slice a2 l2 c2, .slice none 0 0] 50))
  have hw3 := hw2.then_alloc (.cells #[.slice none 0 0, .slice none 0 0, .slice a2 l2 c2, .slice none 0 0] 50)
  have hacc3 := hacc2.keepAll RStr.ok (Kept.alloc (fun _ => True) w2 (.cells #[.slice none 0 0, .slice none 0 0, .slice a2 l2 c2, .slice none 0 0] 50))
  have hsz3 : (w2.alloc (.cells #[.slice none 0 0, .slice none 0 0, .slice a2 l2 c2, .slice none 0 0] 50)).heap.size = w2.heap.size + 1 := by simp
  obtain ⟨bb, hbbe⟩ : ∃ b, b = w2.heap.size := ⟨_, rfl⟩
  obtain ⟨rb, hrbe⟩ : ∃ b, b = w.heap.size := ⟨_, rfl⟩
  have Hbb := Lib.hid hbbe
  have Hrb := Lib.hid hrbe
  have HW1o := HW1.out
  have hbb1 : w.heap.size + 4 ≤ bb := by omega
  have hbb2 : bb < (w2.alloc (.cells #[.slice none 0 0, .slice none 0 0, .slice a2 l2 c2, .slice none 0 0] 50)).heap.size := by omega
  have hrb1 : rb < bb := by omega
  have hσr : σ.b < rb := by omega
  have HNew := Lib.hid (show w.heap.size ≤ rb by omega)
  rw [← hbbe] at hbb
  rw [← hrbe] at k0'
  clear hbbe hrbe hs2 hw2 hacc2 k0 hsz3 hsz2 HW1o HW1
  have HSZ3 := Lib.hid (show w2.heap.size + 1 = (w2.alloc (.cells #[.slice none 0 0, .slice none 0 0, .slice a2 l2 c2, .slice none 0 0] 50)).heap.size by simp)
  go_wp2_with fail
  simp only [HSZ3.out]
  simp only [← Hbb.out, ← Hrb.out]
  clear HSZ3
  clear hcv Hrb
  generalize w2.alloc (.cells #[.slice none 0 0, .slice none 0 0, .slice a2 l2 c2, .slice none 0 0] 50) = w3 at *
  have hlt3 := hs3.lt
  refine (range_any σ n2 0 2 _ (hs3.keep (by repeat (first | exact Kept.refl _ _ | refine Kept.then_drew ?_ | refine Kept.then_drewN ?_ _ | refine Kept.then_alloc ?_ _))) (by omega) (by omega) (by omega) (by omega)).mono ?_
  rintro e w4 ⟨v, n4, rfl, ⟨r4, rfl, hr1, hr2⟩, hn3, hn4, hs4, hb4⟩
  obtain ⟨M1, rfl⟩ := Int.eq_ofNat_of_zero_le hr1
  have hM1 : M1 ≤ 2 := by omega
  have hA := hb4.heap (heap_old (.cells #[.string ⟨#[97, 110, 110]⟩, .string ⟨#[98, 111, 98]⟩, .string ⟨#[99, 105, 100]⟩] 9) (heap_at w3 (.cells #[.string ⟨#[112, 97]⟩, .string ⟨#[112, 98]⟩] 9) _ rfl)) (by omega)
  have hP := hb4.heap (heap_at (w3.alloc (.cells #[.string ⟨#[112, 97]⟩, .string ⟨#[112, 98]⟩] 9)) (.cells #[.string ⟨#[97, 110, 110]⟩, .string ⟨#[98, 111, 98]⟩, .string ⟨#[99, 105, 100]⟩] 9) (w3.heap.size + 1) (by simp)) (by omega)
  have hb34 : But σ.b w3 w4 := (Kept.all ((by repeat (first | exact Kept.refl _ _ | refine Kept.then_drew ?_ | refine Kept.then_drewN ?_ _ | refine Kept.then_alloc ?_ _)) : All w3 _)).trans hb4
  have HN4 := Lib.hid (show w.heap.size ≤ w4.heap.size from by have := hb34.size; omega)
  clear hb4 hr1 hr2
  go_wp2_with fail
  refine (pairs10_any σ n4 _ 2 _ [⟨#[112, 97]⟩, ⟨#[112, 98]⟩] _ 3 _ [⟨#[97, 110, 110]⟩, ⟨#[98, 111, 98]⟩, ⟨#[99, 105, 100]⟩] M1 _ hs4 (by omega) (Sl.lit_strs _ hA rfl (by omega)) (Sl.lit_strs _ hP rfl (by omega)) (by omega) (by omega) (by omega) (by omega) (by omega)).mono ?_
  rintro e w5 ⟨v1, n5, rfl, ⟨bs, hbl, haccb⟩, hn5, hn6, hs5, hb5⟩
  obtain ⟨a1, c1, rfl, -⟩ := haccb.form
  obtain ⟨l1, hl1⟩ : ∃ l, l = bs.length := ⟨_, rfl⟩
  rw [← hl1] at haccb ⊢
  have HL1 := Lib.hid hl1
  have hb35 := hb34.trans hb5
  have hw5 := hw3.trans hb35
  have hacc5 := hacc3.keep RStr.ok hb35 (fun _ h => h.elim) (fun k hk => by have := (hacc3.lt k hk).1; omega)
  have hbb5 := hb35.heap hbb (by omega)
  have hrb5 := hb35.heap k0' (by omega)
  have hsz5 := hb35.size
  have hsz34 := hb34.size
  have hv1 := Lib.hid (fun k hk => (haccb.lt k hk).1)
  have hv2 := Lib.hid (fun k hk => (hacc3.lt k hk).1)
  have hne2 := hacc5.notType hbb5 (by decide)
  clear hl1 hA hP hs3 hs4 hb34 hb5 hb35 hw3 hacc3 hbb k0'
  have e1 := cell_at (i := 1) hbb5 rfl
  have z1 := frozen_at (i := 1) hbb5
  have hbb6 := heap_setCell_at w5 bb 1 (.slice a1 l1 c1) _ _ _ hbb5
  have hrb6 := (Kept.setCell (F := fun k => k ≠ bb) w5 ⟨bb, 1, none⟩ (.slice a1 l1 c1) (by simp)).heap hrb5 (by omega)
  have hs6 := hs5.set ⟨bb, 1, none⟩ (.slice a1 l1 c1) (by dsimp only; omega)
  have hw6 := hw5.then_setNew ⟨bb, 1, none⟩ (.slice a1 l1 c1) (by dsimp only; omega)
  have haccb6 := haccb.keep RPair.ok (Kept.setCell (F := fun k => k ≠ bb) w5 ⟨bb, 1, none⟩ (.slice a1 l1 c1) (by simp)) (fun _ h => h.elim) (fun k hk => by have := hv1.out k hk; omega)
  have hacc6 := hacc5.keep RStr.ok (Kept.setCell (F := fun k => k ≠ bb) w5 ⟨bb, 1, none⟩ (.slice a1 l1 c1) (by simp)) (fun _ h => h.elim) hne2
  simp only [List.setIfInBounds_toArray, List.set_cons_succ, List.set_cons_zero] at hbb6
  have HS6 := Lib.hid (show w5.heap.size = (w5.setCell ⟨bb, 1, none⟩ (.slice a1 l1 c1)).heap.size by simp [World.setCell])
  clear hs5 hw5 haccb hacc5 hbb5 hrb5 hne2
  go_wp2_with fail
  simp only [HS6.out]
  generalize w5.setCell ⟨bb, 1, none⟩ (.slice a1 l1 c1) = w6 at *
  clear e1 z1
  have HS6o := HS6.out
  have hsz6 : w3.heap.size ≤ w6.heap.size := by omega
  clear HS6 HS6o hsz5
  refine (range_any σ n5 0 6 _ (hs6.keep (by repeat (first | exact Kept.refl _ _ | refine Kept.then_drew ?_ | refine Kept.then_drewN ?_ _ | refine Kept.then_alloc ?_ _))) (by omega) (by omega) (by omega) (by omega)).mono ?_
  rintro e w7 ⟨v, n7, rfl, ⟨r7, rfl, hr1, hr2⟩, hn7, hn8, hs7, hb7⟩
  obtain ⟨M2, rfl⟩ := Int.eq_ofNat_of_zero_le hr1
  have hM2 : M2 ≤ 6 := by omega
  have hA := hb7.heap (heap_old (.cells #[.string ⟨#[98, 111, 98]⟩, .string ⟨#[99, 105, 100]⟩, .string ⟨#[100, 101, 101]⟩] 9) (heap_at w6 (.cells #[.string ⟨#[112, 97]⟩, .string ⟨#[112, 98]⟩, .string ⟨#[112, 99]⟩] 9) _ rfl)) (by omega)
  have hP := hb7.heap (heap_at (w6.alloc (.cells #[.string ⟨#[112, 97]⟩, .string ⟨#[112, 98]⟩, .string ⟨#[112, 99]⟩] 9)) (.cells #[.string ⟨#[98, 111, 98]⟩, .string ⟨#[99, 105, 100]⟩, .string ⟨#[100, 101, 101]⟩] 9) (w6.heap.size + 1) (by simp)) (by omega)
  have hb67 : But σ.b w6 w7 := (Kept.all ((by repeat (first | exact Kept.refl _ _ | refine Kept.then_drew ?_ | refine Kept.then_drewN ?_ _ | refine Kept.then_alloc ?_ _)) : All w6 _)).trans hb7
  clear hb7 hr1 hr2
  go_wp2_with fail
  refine (pairs10_any σ n7 _ 3 _ [⟨#[112, 97]⟩, ⟨#[112, 98]⟩, ⟨#[112, 99]⟩] _ 3 _ [⟨#[98, 111, 98]⟩, ⟨#[99, 105, 100]⟩, ⟨#[100, 101, 101]⟩] M2 _ hs7 (by omega) (Sl.lit_strs _ hA rfl (by omega)) (Sl.lit_strs _ hP rfl (by omega)) (by omega) (by omega) (by omega) (by omega) (by omega)).mono ?_
  rintro e w8 ⟨vq, n8, rfl, ⟨qs, hql, haccq⟩, hn9, hn10, hs8, hb8⟩
  obtain ⟨aq, cq, rfl, -⟩ := haccq.form
  obtain ⟨lq, hlq⟩ : ∃ l, l = qs.length := ⟨_, rfl⟩
  rw [← hlq] at haccq hql ⊢
  have hb68 := hb67.trans hb8
  have hw8 := hw6.trans hb68
  have hacc8 := hacc6.keep RStr.ok hb68 (fun _ h => h.elim) (fun k hk => by have := (hacc6.lt k hk).1; omega)
  have haccb8 := haccb6.keep RPair.ok hb68 (fun _ h => h.elim) (fun k hk => by have := hv1.out k hk; omega)
  have hbb8 := hb68.heap hbb6 (by omega)
  have hrb8 := hb68.heap hrb6 (by omega)
  have hsz8 := hb68.size
  have hsz67 := hb67.size
  have hb3z : bb < w3.heap.size := hbb2
  obtain ⟨aq', cq', heq, hslq⟩ := haccq.sl RPair.ok (by decide) (G := fun k => k ≠ bb) (fun _ h => h.elim) (fun k hk => by have := (haccq.lt k hk).1; omega)
  rw [← hlq] at heq hslq
  injection heq with q1 q2 q3
  subst q1 q3
  clear q2 haccq hlq
  have hne2r := hacc8.notType hrb8 (by decide)
  have HV1b := Lib.hid (show ∀ k, (Value.slice a1 l1 c1).ownBlock = some k → k ≠ bb ∧ k ≠ rb ∧ σ.b < k ∧ k < w8.heap.size from fun k hk => by have h1 := hv1.out k hk; have h2 := (haccb8.lt k hk).2; exact ⟨by omega, by omega, by omega, h2⟩)
  have HV2b := Lib.hid (show ∀ k, (Value.slice a2 l2 c2).ownBlock = some k → k ≠ bb ∧ k ≠ rb ∧ σ.b < k ∧ k < w8.heap.size from fun k hk => ⟨hacc8.notType hbb8 (by decide) k hk, hne2r k hk, by have := (hacc8.lt k hk).1; omega, (hacc8.lt k hk).2⟩)
  clear hne2r
  have hne2 := hacc8.notType hbb8 (by decide)
  have HB8 := Lib.hid hbb8
  have HBs := Lib.hid (fun (wx : World) (k : But bb w8 wx) => haccb8.keep RPair.ok k (fun _ h => h.elim) (fun j hj => by have := hv1.out j hj; omega))
  have HHs := Lib.hid (fun (wx : World) (k : But bb w8 wx) => hacc8.keep RStr.ok k (fun _ h => h.elim) hne2)
  have HRB := Lib.hid (fun (wx : World) (k : But bb w8 wx) => k.heap hrb8 (by omega))
  have hbb9 : bb < w8.heap.size := by omega
  have hbl20 : l1 ≤ 20 := by have := HL1.out; omega
  have hnn : n ≤ n8 ∧ n8 ≤ n + 90 := by omega
  clear hn5 hn6 hn7 hn8 hn9 hn10
  clear hA hP hs6 hs7 hb67 hb8 hb68 hw6 hacc6 haccb6 hbb6 hrb6 hbb8 hrb8 hne2 hacc8 haccb8 hv1 hv2 hsz34 hsz6 hsz67 hn1 hn2 hn3 hn4 hi3 hM1 hM2
  go_wp2_with fail
  go_loopw [31] (fun i wr => ∃ k : Nat, k ≤ lq ∧ i = .int .i64 k ∧ ∃ (v0 : Value) (ps : List Pair2), ps.length ≤ k ∧ Acc RPair 2 101 (fun _ => False) w8.heap.size wr v0 ps ∧ wr.heap[bb]? = some (.cells #[v0, .slice a1 l1 c1, .slice a2 l2 c2, .slice none 0 0] 50 (0, 0)) ∧ But bb w8 wr) (fun i _ => lq - (intOf i).toNat)
  case atStart => exact ⟨0, Nat.zero_le _, rfl, .slice none 0 0, [], Nat.le_refl _, Acc.nil _ _ _ _ _ _, HB8.out, Kept.refl _ _⟩
  case round =>
    obtain ⟨k, hk, rfl, v0, ps, hpl, hacc0, hbb, hbut⟩ := hrel
    obtain ⟨wo, rfl⟩ : ∃ wo : World, wo = wr := ⟨_, rfl⟩
    obtain ⟨a0, c0, rfl, -⟩ := hacc0.form
    obtain ⟨l0, hl0⟩ : ∃ l, l = ps.length := ⟨_, rfl⟩
    have HL0 := Lib.hid hl0
    have hl0k : l0 ≤ k := by omega
    rw [← hl0] at hbb
    have hsz := hbut.size
    have hacc0' := hacc0
    rw [← hl0] at hacc0'
    clear hl0 hacc0
    by_cases hlt2 : k < lq
    · obtain ⟨b, off, y, ha, -, p0, p1, -, -, -⟩ := (hslq.keep RPair.ok hbut).atPair hlt2
      subst ha
      have hblk := heap_at wo (.cells #[.string y.paper, .string y.person] 101) _ rfl
      have q0 := cell_at (i := 0) hblk rfl
      have q1 := cell_at (i := 1) hblk rfl
      have hka : All wo (wo.alloc (.cells #[.string y.paper, .string y.person] 101)) := Kept.alloc _ _ _
      have hbba := hka.heap hbb trivial
      have e1 := cell_at (i := 1) hbba rfl
      have hbuta := hbut.trans (Kept.all hka)
      have hacca := hacc0'.keepAll RPair.ok hka
      obtain ⟨tb, htb⟩ : ∃ b, b = wo.heap.size := ⟨_, rfl⟩
      have Htb := Lib.hid htb
      have htb1 : w8.heap.size ≤ tb := by omega
      rw [← htb] at q0 q1
      clear hblk htb hbb hacc0'
      obtain ⟨asl, csl, hveq, hsl1⟩ := (HBs.out _ hbuta).sl RPair.ok (by decide) (G := fun _ => True) (fun _ h => h.elim) (fun _ _ => trivial)
      rw [← HL1.out] at hveq hsl1
      injection hveq with h1 h2 h3
      subst h1 h3
      clear h2
      go_wp2_with fail
      simp only [← Htb.out]
      generalize wo.alloc (.cells #[.string y.paper, .string y.person] 101) = wa at *
      refine (containsP_any a1 l1 c1 bs y.paper y.person _ hsl1 (by omega)).mono ?_
      rintro e wb ⟨rfl, hwb⟩
      have hbbb := hwb.heap hbba trivial
      have hbutb := hbuta.trans (Kept.all hwb)
      have haccb := hacca.keepAll RPair.ok hwb
      replace q0 := hwb.cell q0 trivial
      replace q1 := hwb.cell q1 trivial
      clear hsl1 hbba hbuta hacca e1 hka hwb
      obtain ⟨cb, hcb⟩ : ∃ c, c = inP bs y.paper y.person := ⟨_, rfl⟩
      rw [← hcb]
      clear hcb
      cases cb with
      | true =>
        go_wp2_with fail
        go_roundw
        case rel => exact ⟨k + 1, by omega, by go_num, _, ps, by omega, haccb, hbbb, hbutb⟩
        case measure => simp [intOf]; omega
      | false =>
        have e0 := cell_at (i := 0) hbbb rfl
        have hlb : ps.length + 1 ≤ 1000000000 := by have := HL0.out; omega
        have hsz9 := hbutb.size
        have hkr := Lib.hid (fun k (hk : (Value.slice a0 l0 c0).ownBlock = some k) => (haccb.lt k hk).1)
        have hy : RPair (fun k => False ∧ (Value.slice a0 l0 c0).ownBlock ≠ some k) (wb.alloc (.cells #[.string y.paper, .string y.person] 101)) [.string y.paper, .string y.person] y := rfl
        go_wp2_with (at_builtin; refine wp_append1 RPair.ok _ rfl _ _ 28 rfl w8.heap.size 101 (.agg #[.string ⟨#[]⟩, .string ⟨#[]⟩]) 2 32 Tryz.underlying28 (by kernel_rfl) rfl (by decide) (fun _ => False) _ ps rfl (haccb.keepAll RPair.ok (Kept.alloc _ _ _)) ⟨_, 0, none⟩ 1 [.string y.paper, .string y.person] rfl rfl (World.news_of_block (cs := #[.string y.paper, .string y.person]) (heap_alloc_new wb _)) (by simp [Value.oneCell']) y hy hlb (by decide) (by simp; omega) ?_)
        intro p' c' w9 hacc9 hg9 _
        have hk9 : Kept (fun k => (Value.slice a0 l0 c0).ownBlock ≠ some k) wb w9 := Kept.grown (Kept.alloc _ _ _) hg9 (fun k hk => Or.inr (fun h => h hk))
        have hbut9 : But bb w8 w9 := hbutb.trans2 hk9 (fun i hi _ e => by have := hkr.out i e; omega)
        have hbb9' := hk9.heap hbbb (fun e => by have := hkr.out bb e; omega)
        have f0 := cell_at (i := 0) hbb9' rfl
        have z0 := frozen_at (i := 0) hbb9'
        have hbb10 := heap_setCell_at w9 bb 0 (.slice p' (ps.length + 1) c') _ _ _ hbb9'
        simp only [List.setIfInBounds_toArray, List.set_cons_zero] at hbb10
        have hacc10 := Lib.hid (hacc9.keep RPair.ok (Kept.setCell (F := fun k => k ≠ bb) w9 ⟨bb, 0, none⟩ (.slice p' (ps.length + 1) c') (by simp)) (fun _ h => h.elim) (fun k hk => by have := (hacc9.lt k hk).1; omega))
        have hbut10 := Lib.hid (hbut9.then_setCell ⟨bb, 0, none⟩ (.slice p' (ps.length + 1) c') (by simp))
        have HBB10 := Lib.hid hbb10
        clear hg9 haccb hbbb hbb9' hbb10 hk9 hacc9 hbut9 hbutb q0 q1 e0 hy
        go_wp2_with fail
        go_roundw
        case rel => exact ⟨k + 1, by omega, by go_num, _, ps ++ [y], by simp; have := HL0.out; omega, hacc10.out, HBB10.out, hbut10.out⟩
        case measure => simp [intOf]; omega
    · have hdq : decide ((k : Int) < (lq : Int)) = false := by simp; omega
      have hm0 := MapO.made Tryz.prog 9 wo
      have hkm : All wo (wo.alloc (.map #[] 0)) := Kept.alloc _ _ _
      have hbbm := hkm.heap hbb trivial
      have hbutm := hbut.trans (Kept.all hkm)
      have haccm := hacc0'.keepAll RPair.ok hkm
      have hlt8 := hs8.lt
      have hsm := (hs8.kept hbutm (fun k hk e => by omega))
      have HV0b := Lib.hid (show ∀ k, (Value.slice a0 l0 c0).ownBlock = some k → k ≠ bb ∧ k ≠ rb ∧ σ.b < k ∧ w8.heap.size ≤ k ∧ k < wo.heap.size from fun k hk => by have h1 := hacc0'.lt k hk; exact ⟨by omega, by omega, by omega, h1.1, h1.2⟩)
      obtain ⟨mb, hmb⟩ : ∃ b, b = wo.heap.size := ⟨_, rfl⟩
      have Hmb := Lib.hid hmb
      rw [← hmb] at hm0 HV0b
      have hmb8 : w8.heap.size ≤ mb := by omega
      clear hmb
      have HMS := Lib.hid (show mb < (wo.alloc (.map #[] 0)).heap.size from by have := Hmb.out; simp; omega)
      have hnn1 := hnn.1
      have hnn2 := hnn.2
      have hp20 : ps.length ≤ 20 := by omega
      clear hbut hbb hacc0' hkm hs8 hslq
      go_wp2_with fail
      simp only [← Hmb.out]
      generalize wo.alloc (.map #[] 0) = wm at *
      clear hmm
      refine (range_any σ n8 0 6 _ hsm (by omega) (by omega) (by omega) (by omega)).mono ?_
      rintro e w11 ⟨v, n11, rfl, ⟨r11, rfl, hr1, hr2⟩, hn11, hn12, hs11, hb11⟩
      obtain ⟨M3, rfl⟩ := Int.eq_ofNat_of_zero_le hr1
      have hM3 : M3 ≤ 6 := by omega
      have hm11 := hb11.heap hbbm (by omega)
      have hmap11 := hm0.keep hb11 (show mb ≠ σ.b by omega)
      have hsz11 := hb11.size
      have hms := HMS.out
      have hszm := hbutm.size
      have HP11 := Lib.hid (haccm.keep RPair.ok hb11 (fun _ h => h.elim) (fun k hk => by have := HV0b.out k hk; omega))
      have HB11 := Lib.hid ((HBs.out _ hbutm).keep RPair.ok hb11 (fun _ h => h.elim) (fun k hk => by have := HV1b.out k hk; omega))
      have HH11 := Lib.hid ((HHs.out _ hbutm).keep RStr.ok hb11 (fun _ h => h.elim) (fun k hk => by have := HV2b.out k hk; omega))
      have HR11 := Lib.hid (hb11.heap (HRB.out _ hbutm) (by omega))
      have HW11 := Lib.hid (show But σ.b w w11 from (hw8.trans2 hbutm (fun i hi _ e => by have := HNew.out; omega)).trans hb11)
      have HBB11 := Lib.hid hm11
      have HMAP := Lib.hid hmap11
      have HST := Lib.hid hs11
      have hmb11 : mb < w11.heap.size := by omega
      have hbb11 : bb < w11.heap.size := by omega
      have hσ11 := hs11.lt
      have hσm : σ.b < mb := by omega
      have hbm : bb < mb := by omega
      have hσb : σ.b < bb := by omega
      clear hr1 hr2 hm0 hm11 hmap11 hs11 hb11 hbbm hsm haccm hms HMS hbutm hsz11 hszm HBs HHs HRB
      go_wp2_with fail
      go_loopw [6, 50] (fun z i wr => ∃ k : Nat, k ≤ M3 ∧ i = .int .i64 k ∧ (∃ zz : Int, z = .int .i64 zz) ∧ ∃ (v3 : Value) (ts : List Turn3) (n' mm : Nat) (f : ByteArray → Bool), ts.length ≤ k ∧ Acc RTurn 3 121 (fun _ => False) w11.heap.size wr v3 ts ∧ wr.heap[bb]? = some (.cells #[.slice a0 l0 c0, .slice a1 l1 c1, .slice a2 l2 c2, v3] 50 (0, 0)) ∧ MapO Tryz.prog 9 wr mb mm f ∧ mm ≤ k ∧ Str σ wr n' ∧ n11 ≤ n' ∧ n' ≤ n11 + 2 * k ∧ Kept (fun k => k ≠ bb ∧ k ≠ mb ∧ k ≠ σ.b) w11 wr) (fun _ i _ => M3 - (intOf i).toNat)
      case atStart => exact ⟨0, Nat.zero_le _, rfl, ⟨0, rfl⟩, .slice none 0 0, [], n11, 0, _, Nat.le_refl _, Acc.nil _ _ _ _ _ _, HBB11.out, HMAP.out, Nat.le_refl _, HST.out, Nat.le_refl _, by omega, Kept.refl _ _⟩
      case round =>
        obtain ⟨k, hk, rfl, ⟨zz, rfl⟩, v3, ts, n', mm, f, htl, hacc3, hbb, hmap, hmk, hst, hn1, hn2, hKw⟩ := hrel
        obtain ⟨wo, rfl⟩ : ∃ wo : World, wo = wr := ⟨_, rfl⟩
        obtain ⟨a3, c3, rfl, -⟩ := hacc3.form
        obtain ⟨l3, hl3⟩ : ∃ l, l = ts.length := ⟨_, rfl⟩
        have HL3 := Lib.hid hl3
        rw [← hl3] at hbb hacc3
        have hl3k : l3 ≤ k := by omega
        clear hl3
        have hsz := hKw.size
        have HKR := Lib.hid (fun k (hk : (Value.slice a3 l3 c3).ownBlock = some k) => (hacc3.lt k hk).1)
        have hlto := hst.lt
        by_cases hlt2 : k < M3
        · have hla : wo.heap.size ≠ σ.b := by omega
          go_wp2_with fail
          refine (pick_any σ n' _ 4 4 [0, 5, 10, 50] _ (hst.keep (Kept.alloc _ _ _)) (by omega) (Sl.lit_ints [0, 5, 10, 50] (heap_at _ _ _ rfl) rfl hla) (by simp) (by simp)).mono ?_
          rintro e wb ⟨v, nb, rfl, ⟨rr, rfl, -⟩, hnb1, hnb2, hsb, hbb_⟩
          have hbw : But σ.b wo wb := (Kept.alloc _ _ _).trans hbb_
          have hltb := hsb.lt
          have hszb := hbw.size
          clear hbb_
          go_wp2_with fail
          refine (some10_any σ nb _ 4 4 [⟨#[112, 97]⟩, ⟨#[112, 97]⟩, ⟨#[112, 98]⟩, ⟨#[112, 99]⟩] _ (hsb.keep (Kept.alloc _ _ _)) (by omega) (Sl.lit_strs [⟨#[112, 97]⟩, ⟨#[112, 97]⟩, ⟨#[112, 98]⟩, ⟨#[112, 99]⟩] (heap_at _ _ _ rfl) rfl (by omega)) (by simp) (by simp)).mono ?_
          rintro e wc ⟨v, nc, rfl, ⟨y, rfl, -, hyz⟩, hnc1, hnc2, hsc, hbc⟩
          have hbwc : But σ.b wo wc := hbw.trans ((Kept.alloc _ _ _).trans hbc)
          have hbbc := hbwc.heap hbb (by omega)
          have hmapc := hmap.keep hbwc (show mb ≠ σ.b by omega)
          have haccc := hacc3.keep RTurn.ok hbwc (fun _ h => h.elim) (fun j hj => by have := HKR.out j hj; omega)
          have hKc : Kept (fun k => k ≠ bb ∧ k ≠ mb ∧ k ≠ σ.b) w11 wc := hKw.trans (hbwc.mono (fun k hk => hk.2.2))
          clear hbc hbw hsb hst hbb hmap hacc3 hKw hbwc hltb hlto
          have l1 := hmapc.look Tryz.underlying9 Tryz.underlying142 (Tryz.zeroValue4 wc) y hyz
          obtain ⟨wd, hput, hmapd, hbd⟩ := hmapc.put Tryz.underlying9 Tryz.underlying142 (by omega) y hyz (!f y)
          obtain ⟨ob, hob⟩ : ∃ ob, ob = !f y := ⟨_, rfl⟩
          have l2 : (Instr.lookup 142 (.map (some mb)) (.string y) false).run Tryz.prog wd = .ok (.bool ob) wd := by have := hmapd.look Tryz.underlying9 Tryz.underlying142 (Tryz.zeroValue4 wd) y hyz; rw [hob]; simpa using this
          rw [← hob] at hput
          obtain ⟨fy, hfy⟩ : ∃ fy, fy = f y := ⟨_, rfl⟩
          rw [← hfy] at l1 hob
          have HOB := Lib.hid hob.symm
          have hnot : (!fy) = ob := hob.symm
          have hbbd := hbd.heap hbbc (by omega)
          have haccd := haccc.keep RTurn.ok hbd (fun _ h => h.elim) (fun j hj => by have := HKR.out j hj; omega)
          have hsd := hsc.kept hbd (fun k hk e => by omega)
          have hKd : Kept (fun k => k ≠ bb ∧ k ≠ mb ∧ k ≠ σ.b) w11 wd := hKc.trans (hbd.mono (fun k hk => hk.2.1))
          have hszd := hKd.size
          have hltd := hsd.lt
          have e3 := cell_at (i := 3) hbbd rfl
          have hlb : ts.length + 1 ≤ 1000000000 := by have := HL3.out; omega
          clear hob hfy hbbc haccc hsc hKc hbd hmapc
          obtain ⟨z9, hz9⟩ : ∃ z : Int, z = IntKind.i64.wrap (zz + rr) := ⟨_, rfl⟩
          clear hz9 z9
          go_wp2_with (at_builtin; refine wp_append1 RTurn.ok _ rfl _ _ 48 rfl w11.heap.size 121 (.agg #[.int .i64 0, .string ⟨#[]⟩, .bool false]) 3 32 Tryz.underlying48 (by kernel_rfl) rfl (by decide) (fun _ => False) _ ts rfl (haccd.keepAll RTurn.ok (Kept.alloc _ _ _)) ⟨_, 0, none⟩ 1 [.int .i64 (wrap64 (zz + rr)), .string y, .bool ob] rfl rfl (World.news_of_block (cs := #[.int .i64 (wrap64 (zz + rr)), .string y, .bool ob]) (heap_alloc_new wd _)) (by simp [Value.oneCell']) ⟨wrap64 (zz + rr), y, ob⟩ ⟨rfl, hyz⟩ hlb (by decide) (by simp; omega) ?_)
          intro p' c' w9 hacc9 hg9 _
          have hk9 : Kept (fun k => (Value.slice a3 l3 c3).ownBlock ≠ some k) wd w9 := Kept.grown (Kept.alloc _ _ _) hg9 (fun k hk => Or.inr (fun h => h hk))
          have hbb9' := hk9.heap hbbd (fun e => by have := HKR.out bb e; omega)
          have hs9 := hsd.kept hk9 (fun k hk e => by have := HKR.out k e; omega)
          have hmap9 := hmapd.keep hk9 (fun e => by have := HKR.out mb e; omega)
          have hK9 := hKd.trans2 hk9 (fun i hi _ e => by have := HKR.out i e; omega)
          have f3 := cell_at (i := 3) hbb9' rfl
          have z3 := frozen_at (i := 3) hbb9'
          have hbb10 := heap_setCell_at w9 bb 3 (.slice p' (ts.length + 1) c') _ _ _ hbb9'
          simp only [List.setIfInBounds_toArray, List.set_cons_succ, List.set_cons_zero] at hbb10
          have hacc10 := Lib.hid (hacc9.keep RTurn.ok (Kept.setCell (F := fun k => k ≠ bb) w9 ⟨bb, 3, none⟩ (.slice p' (ts.length + 1) c') (by simp)) (fun _ h => h.elim) (fun k hk => by have := (hacc9.lt k hk).1; omega))
          have hs10 := Lib.hid (hs9.set ⟨bb, 3, none⟩ (.slice p' (ts.length + 1) c') hσb)
          have hmap10 := Lib.hid (hmap9.keep (Kept.setCell (F := fun k => k ≠ bb) w9 ⟨bb, 3, none⟩ (.slice p' (ts.length + 1) c') (by simp)) (show mb ≠ bb by omega))
          have hK10 := Lib.hid (hK9.then_setCell ⟨bb, 3, none⟩ (.slice p' (ts.length + 1) c') (by simp))
          have HBB10 := Lib.hid hbb10
          clear hg9 haccd hbbd hbb9' hbb10 hk9 hacc9 hs9 hmap9 hK9 hsd hmapd hKd e3 l1 l2 hput
          go_wp2_with fail
          go_roundw
          case rel => exact ⟨k + 1, by omega, by go_num, ⟨_, rfl⟩, _, ts ++ [⟨wrap64 (zz + rr), y, ob⟩], nc, mm + 1, _, by simp; have := HL3.out; omega, hacc10.out, HBB10.out, hmap10.out, by omega, hs10.out, by omega, by omega, hK10.out⟩
          case measure => simp [intOf]; omega
        · have hdk : decide ((k : Int) < (M3 : Int)) = false := by simp; omega
          have hN := HNew.out
          have hrbo := hKw.heap HR11.out ⟨show rb ≠ bb by omega, show rb ≠ mb by omega, show rb ≠ σ.b by omega⟩
          have hke : Kept (fun k => k ≠ rb) wo ((((wo.setCell ⟨rb, 0, none⟩ (.slice a0 l0 c0)).setCell ⟨rb, 1, none⟩ (.slice a1 l1 c1)).setCell ⟨rb, 2, none⟩ (.slice a2 l2 c2)).setCell ⟨rb, 3, none⟩ (.slice a3 l3 c3)) := ((((Kept.refl _ _).then_setCell _ _ (by simp)).then_setCell _ _ (by simp)).then_setCell _ _ (by simp)).then_setCell _ _ (by simp)
          have A0 := Lib.hid (((HP11.out.keep RPair.ok hKw (fun _ h => h.elim) (fun k hk => by have := HV0b.out k hk; exact ⟨by omega, by omega, by omega⟩)).keep RPair.ok hke (fun _ h => h.elim) (fun k hk => by have := HV0b.out k hk; omega)).base (show w.heap.size ≤ w8.heap.size by omega))
          have A1 := Lib.hid (((HB11.out.keep RPair.ok hKw (fun _ h => h.elim) (fun k hk => by have := HV1b.out k hk; exact ⟨by omega, by omega, by omega⟩)).keep RPair.ok hke (fun _ h => h.elim) (fun k hk => by have := HV1b.out k hk; omega)).base HN4.out)
          have A2 := Lib.hid ((HH11.out.keep RStr.ok hKw (fun _ h => h.elim) (fun k hk => by have := HV2b.out k hk; exact ⟨by omega, by omega, by omega⟩)).keep RStr.ok hke (fun _ h => h.elim) (fun k hk => by have := HV2b.out k hk; omega))
          have A3 := Lib.hid ((hacc3.keep RTurn.ok hke (fun _ h => h.elim) (fun k hk => by have := HKR.out k hk; omega)).base (show w.heap.size ≤ w11.heap.size by omega))
          have hdis := Lib.hid (show ∀ k, (Value.slice a0 l0 c0 : Value).ownBlock = some k → (Value.slice a1 l1 c1 : Value).ownBlock ≠ some k from fun k h1 h2 => by have h3 := HV0b.out k h1; have h4 := HV1b.out k h2; omega)
          have hfs := Lib.hid ((((hst.set ⟨rb, 0, none⟩ (.slice a0 l0 c0) hσr).set ⟨rb, 1, none⟩ (.slice a1 l1 c1) hσr).set ⟨rb, 2, none⟩ (.slice a2 l2 c2) hσr).set ⟨rb, 3, none⟩ (.slice a3 l3 c3) hσr)
          have hfw := Lib.hid (((((HW11.out.trans2 hKw (fun i hi hne => ⟨by omega, by omega, hne⟩)).then_setNew ⟨rb, 0, none⟩ (.slice a0 l0 c0) hN).then_setNew ⟨rb, 1, none⟩ (.slice a1 l1 c1) hN).then_setNew ⟨rb, 2, none⟩ (.slice a2 l2 c2) hN).then_setNew ⟨rb, 3, none⟩ (.slice a3 l3 c3) hN)
          have hfin : ((((wo.setCell ⟨rb, 0, none⟩ (.slice a0 l0 c0)).setCell ⟨rb, 1, none⟩ (.slice a1 l1 c1)).setCell ⟨rb, 2, none⟩ (.slice a2 l2 c2)).setCell ⟨rb, 3, none⟩ (.slice a3 l3 c3)).heap[rb]? = some (.cells #[.slice a0 l0 c0, .slice a1 l1 c1, .slice a2 l2 c2, .slice a3 l3 c3] 50 (0, 0)) := by
            have h0 := heap_setCell_at wo rb 0 (.slice a0 l0 c0) _ _ _ hrbo
            have h1 := heap_setCell_at _ rb 1 (.slice a1 l1 c1) _ _ _ h0
            have h2 := heap_setCell_at _ rb 2 (.slice a2 l2 c2) _ _ _ h1
            have h3 := heap_setCell_at _ rb 3 (.slice a3 l3 c3) _ _ _ h2
            simpa using h3
          have e0 := cell_at (i := 0) hbb rfl
          have e1 := cell_at (i := 1) hbb rfl
          have e2 := cell_at (i := 2) hbb rfl
          have e3 := cell_at (i := 3) hbb rfl
          have y0 := cell_at (i := 0) hrbo rfl
          have y1 := cell_at (i := 1) hrbo rfl
          have y2 := cell_at (i := 2) hrbo rfl
          have y3 := cell_at (i := 3) hrbo rfl
          have z0 := frozen_at (i := 0) hrbo
          have z1 := frozen_at (i := 1) hrbo
          have z2 := frozen_at (i := 2) hrbo
          have z3 := frozen_at (i := 3) hrbo
          have q0 := cell_at (i := 0) hfin rfl
          have q1 := cell_at (i := 1) hfin rfl
          have q2 := cell_at (i := 2) hfin rfl
          have q3 := cell_at (i := 3) hfin rfl
          have hl32 : ts.length ≤ 20 := by omega
          clear hke hfin hrbo hbb hacc3 hmap hst hKw
          go_wp2_with fail
          refine bodyPost_ret (v := .agg #[.slice a0 l0 c0, .slice a1 l1 c1, .slice a2 l2 c2, .slice a3 l3 c3]) ?_ rfl ⟨_, n', rfl, ⟨_, _, _, _, ⟨ps, bs, hs, ts⟩, rfl, hp20, hbl, by dsimp only; omega, hl32, A0.out, A1.out, A2.out, A3.out, hdis.out⟩, by omega, by omega, hfs.out, hfw.out⟩
          simp [results, Tryz.results65, go_sem, q0, q1, q2, q3]
end Go.Proofs.YtllkemadaemjeaaGreatDoor

/- The generator Who. -/
namespace Go.Proofs.YtllkemadaemjeaaGreatDoor
open Go.RowKit

set_option maxHeartbeats 1600000 in
theorem who_any (σ : St) (n : Nat) (w : World) (hs : Str σ w n) (hn : n ≤ 4611686018427380000) :
    Calls Tryz.prog 24 #[.pointer (some ⟨σ.b, 0, none⟩)] w (StPost σ n 1 w (IsStr fun r => r.size ≤ 1000000)) := by
  have hlt := hs.lt
  go_enter Tryz.func24, Tryz.ntmps24
  go_wp2_with fail
  refine (some10_any σ n _ 11 11 [⟨#[97, 110, 110]⟩, ⟨#[98, 111, 98]⟩, ⟨#[98, 111, 98]⟩, ⟨#[99, 105, 100]⟩, ⟨#[99, 105, 100]⟩, ⟨#[100, 101, 101]⟩, ⟨#[101, 118, 101]⟩, ⟨#[102, 97, 121]⟩, ⟨#[122, 101, 100]⟩, ⟨#[]⟩, ⟨#[65]⟩] _ (hs.keep (Kept.alloc _ _ _)) (by omega) (Sl.lit_strs _ (heap_at w _ _ rfl) rfl (by omega)) (by omega) (by omega)).mono ?_
  rintro e w2 ⟨v, n2, rfl, ⟨r, rfl, -, hrz⟩, hn1, hn2, hs2, hb2⟩
  have hb : But σ.b w w2 := (Kept.alloc _ _ _).trans hb2
  go_wp2_with fail
  go_ret
  exact ⟨_, n2, rfl, ⟨r, rfl, hrz⟩, hn1, hn2, hs2, hb⟩
end Go.Proofs.YtllkemadaemjeaaGreatDoor

/- append of all pairs of one slice of the call's own to another. -/
namespace Go.Proofs.YtllkemadaemjeaaGreatDoor
open Go.RowKit

theorem Acc.pushPairs {T : TypeId} {B : Nat} {w w' : World} {v v' : Value} {xs ys : List Pair2} {cells news : List Value}
    (ho : w.ownsRow B T 2 v xs.length cells) (he : ∀ (i : Nat) (h : i < xs.length), (cells.drop (i * 2)).take 2 = encP xs[i]) (_hn : news.length = ys.length * 2) (hy : ∀ (i : Nat) (h : i < ys.length), (news.drop (i * 2)).take 2 = encP ys[i])
    (ho' : w'.ownsRow B T 2 v' (xs.length + ys.length) (cells ++ news)) : Acc RPair 2 T (fun _ => False) B w' v' (xs ++ ys) := by
  have hcl := ho.1
  refine ⟨cells ++ news, by simpa using ho', fun i hi => ?_⟩
  simp only [List.length_append] at hi
  show ((cells ++ news).drop (i * 2)).take 2 = encP (xs ++ ys)[i]
  by_cases hlt : i < xs.length
  · have h2 : (i + 1) * 2 ≤ xs.length * 2 := Nat.mul_le_mul_right _ hlt
    rw [List.drop_append_of_le_length (by omega), List.take_append_of_le_length (by simp; omega), List.getElem_append_left hlt]
    exact he i hlt
  · have e1 : (cells ++ news).drop (i * 2) = news.drop ((i - xs.length) * 2) := by
      rw [List.drop_append, List.drop_of_length_le (by omega), List.nil_append, hcl]
      congr 1
      omega
    rw [e1, List.getElem_append_right (by omega)]
    exact hy (i - xs.length) (by omega)
theorem pairCells_one {ys : List Pair2} {news : List Value} (hn : news.length = ys.length * 2) (hy : ∀ (i : Nat) (h : i < ys.length), (news.drop (i * 2)).take 2 = encP ys[i]) : ∀ u ∈ news, u.oneCell' = true := by
  intro u hu
  obtain ⟨j, hj, rfl⟩ := List.getElem_of_mem hu
  have hi : j / 2 < ys.length := by omega
  have h1 := hy (j / 2) hi
  have h2 : ((news.drop (j / 2 * 2)).take 2)[j % 2]? = some news[j] := by
    rw [List.getElem?_take_of_lt (by omega), List.getElem?_drop, List.getElem?_eq_getElem (by omega)]
    congr 2
    omega
  rw [h1] at h2
  have h3 : j % 2 = 0 ∨ j % 2 = 1 := by omega
  rcases h3 with e | e
  · rw [e] at h2
    simp only [encP, List.getElem?_cons_zero, Option.some.injEq] at h2
    rw [← h2]; rfl
  · rw [e] at h2
    simp only [encP, List.getElem?_cons_succ, List.getElem?_cons_zero, Option.some.injEq] at h2
    rw [← h2]; rfl

/-- append(s, x...) of pairs, both slices of the call's own. -/
theorem wp_appendP {P : Program} (w : World) {ops : Array Oper} {rest : List Oper} {o : Oper} {a : Act} {Q : Exit → Act → World → Prop} (hgd : o.guard = none) (s x : Operand) (t : TypeId)
    (ho : o.op = .call { callee := .builtin .append, args := #[s, x], argTypes := #[t, t] })
    (B : Nat) (e : TypeId) (bytes : Nat) (ht : P.underlying t = some (.slice e)) (hi : (P.info? e).map (fun i => (i.zero, i.size, i.bytes)) = some (some (.agg #[.string ⟨#[]⟩, .string ⟨#[]⟩]), 2, bytes))
    (v : Value) (xs : List Pair2) (hs : a.eval s = v) (h1 : Acc RPair 2 e (fun _ => False) B w v xs) (B0 : Nat) (u : Value) (ys : List Pair2) (hx : a.eval x = u) (h0 : Acc RPair 2 e (fun _ => False) B0 w u ys)
    (hb1 : xs.length + ys.length ≤ 1000000) (hb2 : bytes ≤ 100000) (hbase : B ≤ w.heap.size)
    (h : ∀ p' c' w', Acc RPair 2 e (fun _ => False) B w' (.slice p' (xs.length + ys.length) c') (xs ++ ys) → w.grownBy w' v.ownBlock → ((Value.slice p' (xs.length + ys.length) c').ownBlock = v.ownBlock ∨ (Value.slice p' (xs.length + ys.length) c').ownBlock = some w.heap.size) → wpList P ops Q rest (a.put o.dst (.slice p' (xs.length + ys.length) c')) w') :
    wpList P ops Q (o :: rest) a w := by
  obtain ⟨i0, hi, hz0, hz1, hz2⟩ := info_parts hi
  have h1' := h1
  obtain ⟨cells, hown, he⟩ := h1
  obtain ⟨news, hown0, he0⟩ := h0
  rcases hown0.2 with ⟨rfl, hz⟩ | ⟨g, cap, cur, rfl, -, -, -⟩
  · have hy : ys = [] := List.eq_nil_of_length_eq_zero hz
    subst hy
    refine wpList_append_own_none hgd s x t ho B e i0 2 ht hi v xs.length cells hs hown hx ?_
    obtain ⟨p', c', rfl, -⟩ := h1'.form
    have := h p' c' w (by simpa using h1') ⟨rfl, rfl, rfl, Nat.le_refl _, fun _ _ _ => rfl⟩ (Or.inl (by simp [Value.ownBlock]))
    simpa using this
  · refine wpList_append_own_at w hgd s x t ho B e i0 _ 2 bytes ht hi hz0 hz1 hz2 rfl (by decide) v xs.length cells hs hown ⟨g, 0, none⟩ ys.length cap news hx hown0.1 (hown0.cells (g := g) rfl) (pairCells_one hown0.1 (fun i hi => he0 i hi)) (by unfold maxLen; omega) ?_ hbase ?_
    · calc (xs.length + ys.length) * bytes ≤ 1000000 * 100000 := Nat.mul_le_mul hb1 hb2
        _ ≤ 140737488355328 := by decide
    · intro v' w' ho' hg _ hat
      have hp := Acc.pushPairs hown (fun i hi => he i hi) hown0.1 (fun i hi => he0 i hi) ho'
      obtain ⟨p', c', rfl, _⟩ := hp.form
      simp only [List.length_append] at *
      exact h p' c' w' hp hg hat
end Go.Proofs.YtllkemadaemjeaaGreatDoor

/- The generator Board. -/
namespace Go.Proofs.YtllkemadaemjeaaGreatDoor
open Go.RowKit

/-- The board lies in block bb, and all is well. -/
def GoodB (σ : St) (n : Nat) (w : World) (rb bb : Nat) (wx : World) : Prop :=
  ∃ (v0 v1 v2 v3 : Value) (b : Board4) (n' : Nat), wx.heap[bb]? = some (.cells #[v0, v1, v2, v3] 50 (0, 0)) ∧ b.pairs.length ≤ 60 ∧ b.barred.length ≤ 60 ∧ b.heads.length ≤ 60 ∧ b.turns.length ≤ 60 ∧
    Acc RPair 2 101 (fun _ => False) w.heap.size wx v0 b.pairs ∧ Acc RPair 2 101 (fun _ => False) w.heap.size wx v1 b.barred ∧ Acc RStr 1 9 (fun _ => False) w.heap.size wx v2 b.heads ∧ Acc RTurn 3 121 (fun _ => False) w.heap.size wx v3 b.turns ∧
    (∀ k, v0.ownBlock = some k → v1.ownBlock ≠ some k) ∧ Str σ wx n' ∧ n ≤ n' ∧ n' ≤ n + 250 ∧ But σ.b w wx ∧ wx.heap[rb]? = some (.cells #[.slice none 0 0, .slice none 0 0, .slice none 0 0, .slice none 0 0] 50 (0, 0))

/-- Slices of different types lie apart. -/
theorem Acc.apart {α β : Type} {R : Rel α} {R' : Rel β} {sz sz' : Nat} {T T' : TypeId} {F F' : Nat → Prop} {B B' : Nat} {w : World} {v v' : Value} {xs : List α} {ys : List β} (h : Acc R sz T F B w v xs) (h' : Acc R' sz' T' F' B' w v' ys) (hne : T' ≠ T) : ∀ k, v.ownBlock = some k → v'.ownBlock ≠ some k := by
  intro k h1 h2
  obtain ⟨cells, ho, -⟩ := h
  rcases ho.2 with ⟨rfl, -⟩ | ⟨g, cap, cur, rfl, -, hg, -⟩
  · cases h1
  · cases h1
    exact h'.notType hg hne _ h2 rfl

set_option maxRecDepth 100000 in
set_option maxHeartbeats 12800000 in
theorem board_any (σ : St) (n : Nat) (w : World) (hs : Str σ w n) (hn : n ≤ 4611686018427100000) :
    Calls Tryz.prog 20 #[.pointer (some ⟨σ.b, 0, none⟩)] w (StPost σ n 300 w (IsBoard 60 w.heap.size)) := by
  have hlt := hs.lt
  go_enter Tryz.func20, Tryz.ntmps20
  have hs1 := hs.keep (Kept.alloc (fun _ => True) w (.cells #[.slice none 0 0, .slice none 0 0, .slice none 0 0, .slice none 0 0] 50))
  have k0 := heap_at w (.cells #[.slice none 0 0, .slice none 0 0, .slice none 0 0, .slice none 0 0] 50) _ rfl
  have hw1 : But σ.b w (w.alloc (.cells #[.slice none 0 0, .slice none 0 0, .slice none 0 0, .slice none 0 0] 50)) := Kept.alloc _ _ _
  have HSZ := Lib.hid (show w.heap.size + 1 = (w.alloc (.cells #[.slice none 0 0, .slice none 0 0, .slice none 0 0, .slice none 0 0] 50)).heap.size by simp)
  obtain ⟨rb, hrbe⟩ : ∃ b, b = w.heap.size := ⟨_, rfl⟩
  have Hrb := Lib.hid hrbe
  rw [← hrbe] at k0
  have hrw : w.heap.size ≤ rb := by omega
  have hσr : σ.b < rb := by omega
  clear hs hrbe
  go_wp2_with fail
  simp only [← Hrb.out]
  clear Hrb
  have hrb1 : rb < (w.alloc (.cells #[.slice none 0 0, .slice none 0 0, .slice none 0 0, .slice none 0 0] 50)).heap.size := (Array.getElem?_eq_some_iff.1 k0).1
  have hsw : w.heap.size ≤ (w.alloc (.cells #[.slice none 0 0, .slice none 0 0, .slice none 0 0, .slice none 0 0] 50)).heap.size := by have := HSZ.out; omega
  clear HSZ
  generalize w.alloc (.cells #[.slice none 0 0, .slice none 0 0, .slice none 0 0, .slice none 0 0] 50) = w0 at *
  refine (rightBoard_any σ n _ hs1 (by omega)).mono ?_
  rintro e w1 ⟨v, n1, rfl, ⟨v0, v1, v2, v3, b, rfl, m0, m1, m2, m3, A0, A1, A2, A3, hdis⟩, hn1, hn2, hs2, hb1⟩
  replace A0 := A0.base hsw
  replace A1 := A1.base hsw
  replace A2 := A2.base hsw
  replace A3 := A3.base hsw
  have hsz1 := hb1.size
  obtain ⟨a0, c0, rfl, -⟩ := A0.form
  obtain ⟨l0, hl0⟩ : ∃ l, l = b.pairs.length := ⟨_, rfl⟩
  rw [← hl0] at A0 m0 hdis ⊢
  have HL0 := Lib.hid hl0
  clear hl0
  obtain ⟨a1, c1, rfl, -⟩ := A1.form
  obtain ⟨l1, hl1⟩ : ∃ l, l = b.barred.length := ⟨_, rfl⟩
  rw [← hl1] at A1 m1 hdis ⊢
  have HL1 := Lib.hid hl1
  clear hl1
  obtain ⟨a2, c2, rfl, -⟩ := A2.form
  obtain ⟨l2, hl2⟩ : ∃ l, l = b.heads.length := ⟨_, rfl⟩
  rw [← hl2] at A2 m2 ⊢
  have HL2 := Lib.hid hl2
  clear hl2
  obtain ⟨a3, c3, rfl, -⟩ := A3.form
  obtain ⟨l3, hl3⟩ : ∃ l, l = b.turns.length := ⟨_, rfl⟩
  rw [← hl3] at A3 m3 ⊢
  have HL3 := Lib.hid hl3
  clear hl3
  have hbb2 := heap_at w1 (.cells #[.slice a0 l0 c0, .slice a1 l1 c1, .slice a2 l2 c2, .slice a3 l3 c3] 50) _ rfl
  have hrb2 := heap_old (.cells #[.slice a0 l0 c0, .slice a1 l1 c1, .slice a2 l2 c2, .slice a3 l3 c3] 50) (hb1.heap k0 (by omega))
  have hka : All w1 (w1.alloc (.cells #[.slice a0 l0 c0, .slice a1 l1 c1, .slice a2 l2 c2, .slice a3 l3 c3] 50)) := Kept.alloc _ _ _
  have hs3 := hs2.keep hka
  have hw2 := (hw1.trans hb1).then_alloc (.cells #[.slice a0 l0 c0, .slice a1 l1 c1, .slice a2 l2 c2, .slice a3 l3 c3] 50)
  replace A0 := A0.keepAll RPair.ok hka
  replace A1 := A1.keepAll RPair.ok hka
  replace A2 := A2.keepAll RStr.ok hka
  replace A3 := A3.keepAll RTurn.ok hka
  obtain ⟨bb, hbbe⟩ : ∃ b, b = w1.heap.size := ⟨_, rfl⟩
  have Hbb := Lib.hid hbbe
  rw [← hbbe] at hbb2
  have hrbb : rb < bb := by omega
  have hσb : σ.b < bb := by omega
  clear hs1 hw1 hs2 hb1 hka hbbe hsz1 k0 hrb1
  go_wp2_with fail
  simp only [← Hbb.out]
  clear Hbb
  generalize w1.alloc (.cells #[.slice a0 l0 c0, .slice a1 l1 c1, .slice a2 l2 c2, .slice a3 l3 c3] 50) = w2 at *
  have hlb2 : bb < w2.heap.size := (Array.getElem?_eq_some_iff.1 hbb2).1
  refine (flip_any σ n1 12 _ hs3 (by omega) (by omega) (by omega)).mono ?_
  rintro e w3 ⟨v, n3, rfl, ⟨fb, rfl⟩, hn3, hn4, hs4, hb3⟩
  have hbb3 := hb3.heap hbb2 (by omega)
  have hrb3 := hb3.heap hrb2 (by omega)
  have hw3 := hw2.trans hb3
  replace A0 := A0.keep RPair.ok hb3 (fun _ h => h.elim) (fun k hk => by have := (A0.lt k hk).1; omega)
  replace A1 := A1.keep RPair.ok hb3 (fun _ h => h.elim) (fun k hk => by have := (A1.lt k hk).1; omega)
  replace A2 := A2.keep RStr.ok hb3 (fun _ h => h.elim) (fun k hk => by have := (A2.lt k hk).1; omega)
  replace A3 := A3.keep RTurn.ok hb3 (fun _ h => h.elim) (fun k hk => by have := (A3.lt k hk).1; omega)
  clear hb3 hs3 hw2 hbb2 hrb2 hlb2
  go_upto_if 7 with fail
  go_cut [9] (fun _ wx => GoodB σ n w rb bb wx)
  case first =>
    cases fb with
    | false =>
      have hG := Lib.hid (show GoodB σ n w rb bb w3 from ⟨_, _, _, _, b, n3, hbb3, by have := HL0.out; omega, by have := HL1.out; omega, by have := HL2.out; omega, by have := HL3.out; omega, A0, A1, A2, A3, hdis, hs4, by omega, by omega, hw3, hrb3⟩)
      clear A0 A1 A2 A3 hbb3 hrb3 hs4 hw3
      go_wp2_with fail
      go_meet
      exact hG.out
    | true =>
      go_wp2_with fail
      refine (next_any σ n3 4 _ hs4 (by omega) (by omega) (by omega)).mono ?_
      rintro e w4 ⟨v, n4, rfl, ⟨r, rfl, hr1, hr2⟩, hn5, hn6, hs5, hb4⟩
      have hbb4 := hb4.heap hbb3 (by omega)
      have hrb4 := hb4.heap hrb3 (by omega)
      have hw4 := hw3.trans hb4
      replace A0 := A0.keep RPair.ok hb4 (fun _ h => h.elim) (fun k hk => by have := (A0.lt k hk).1; omega)
      replace A1 := A1.keep RPair.ok hb4 (fun _ h => h.elim) (fun k hk => by have := (A1.lt k hk).1; omega)
      replace A2 := A2.keep RStr.ok hb4 (fun _ h => h.elim) (fun k hk => by have := (A2.lt k hk).1; omega)
      replace A3 := A3.keep RTurn.ok hb4 (fun _ h => h.elim) (fun k hk => by have := (A3.lt k hk).1; omega)
      clear hb4 hs4 hw3 hbb3 hrb3
      have hlb4 : bb < w4.heap.size := (Array.getElem?_eq_some_iff.1 hbb4).1
      have hwz4 := hw4.size
      have hlt4 := hs5.lt
      have hnn1 : n ≤ n4 := by omega
      have hnn2 : n4 ≤ n + 210 := by omega
      clear hn1 hn2 hn3 hn4 hn5 hn6
      have T0 := Lib.hid (A0.notType hbb4 (by decide))
      have T1 := Lib.hid (A1.notType hbb4 (by decide))
      have T2 := Lib.hid (A2.notType hbb4 (by decide))
      have T3 := Lib.hid (A3.notType hbb4 (by decide))
      have U0 := Lib.hid (A0.notType hrb4 (by decide))
      have U1 := Lib.hid (A1.notType hrb4 (by decide))
      have U2 := Lib.hid (A2.notType hrb4 (by decide))
      have U3 := Lib.hid (A3.notType hrb4 (by decide))
      have hr4 : r = 0 ∨ r = 1 ∨ r = 2 ∨ r = 3 := by omega
      clear hr1 hr2
      rcases hr4 with rfl | rfl | rfl | rfl
      · skip
        have hla : ((w4.alloc (.cells #[.string ⟨#[112, 122]⟩, .string ⟨#[65]⟩, .string ⟨#[112, 97]⟩] 9)).drew).heap[w4.heap.size]? = some (.cells #[.string ⟨#[112, 122]⟩, .string ⟨#[65]⟩, .string ⟨#[112, 97]⟩] 9 (0, 0)) := heap_at w4 _ _ rfl
        have hpk : Sl RStr 1 (fun k => k ≠ σ.b) ((w4.alloc (.cells #[.string ⟨#[112, 122]⟩, .string ⟨#[65]⟩, .string ⟨#[112, 97]⟩] 9)).drew) (some ⟨w4.heap.size, 0, none⟩) 3 [⟨#[112, 122]⟩, ⟨#[65]⟩, ⟨#[112, 97]⟩] := Sl.lit_strs [⟨#[112, 122]⟩, ⟨#[65]⟩, ⟨#[112, 97]⟩] hla rfl (by omega)
        have hkd : All w4 ((w4.alloc (.cells #[.string ⟨#[112, 122]⟩, .string ⟨#[65]⟩, .string ⟨#[112, 97]⟩] 9)).drew) := (Kept.alloc _ _ _).then_drew
        have hsd : Str σ ((w4.alloc (.cells #[.string ⟨#[112, 122]⟩, .string ⟨#[65]⟩, .string ⟨#[112, 97]⟩] 9)).drew) n4 := hs5.keep hkd
        have e0 := cell_at (i := 0) hbb4 rfl
        have d0 := hkd.cell e0 trivial
        have hplb : b.pairs.length + 1 ≤ 1000000000 := by have := HL0.out; omega
        clear hla
        go_wp2_with fail
        go_region_law (first
          | (refine step_append1 RPair.ok _ (by rfl) _ _ 28 (by rfl) w.heap.size 101 (.agg #[.string ⟨#[]⟩, .string ⟨#[]⟩]) 2 32 Tryz.underlying28 (by kernel_rfl) rfl (by decide) (fun _ => False) (.slice a0 l0 c0) b.pairs (by rfl) (X0.keepAll RPair.ok (by repeat (first | exact Kept.refl _ _ | refine Kept.then_drew ?_ | refine Kept.then_drewN ?_ _ | refine Kept.then_alloc ?_ _))) ⟨w6.heap.size, 0, none⟩ 1 [.string y, .string ⟨#[98, 111, 98]⟩] (by rfl) rfl (World.news_of_block (cs := #[.string y, .string ⟨#[98, 111, 98]⟩]) (t := 101) (fr := (0, 0)) (heap_alloc_new w6 _)) (by simp [Value.oneCell']) (Pair2.mk y ⟨#[98, 111, 98]⟩ hyz (by decide)) rfl hplb (by decide) (by have := hb1.size; simp; omega) ?_; intro p8 c8 w8 hacc8 hgrow hat8; have hk8 : Kept (fun k => (Value.slice a0 l0 c0).ownBlock ≠ some k) w6 w8 := (Kept.grown (Kept.all (((by repeat (first | exact Kept.refl _ _ | refine Kept.then_drew ?_ | refine Kept.then_drewN ?_ _ | refine Kept.then_alloc ?_ _))) : All w6 _)) hgrow (fun k hk => Or.inr (fun h => h hk))); have hbb8 := hk8.heap hbb6 (fun e => T0.out bb e rfl); have f8 := cell_at (i := 0) hbb8 rfl; have z8 := frozen_at (i := 0) hbb8)
          | (go_simp; go_at_call 52; refine (some10_any σ n4 _ 3 3 [⟨#[112, 122]⟩, ⟨#[65]⟩, ⟨#[112, 97]⟩] _ hsd (by omega) hpk (by omega) (by omega)).mono ?_; rintro e w6 ⟨v, n6, rfl, ⟨y, rfl, -, hyz⟩, hn7, hn8, hs6, hb6⟩; have hb1 : But σ.b w4 w6 := (Kept.all hkd).trans hb6; have hbb6 := hb1.heap hbb4 (by omega); have hlb6 : bb < w6.heap.size := (Array.getElem?_eq_some_iff.1 hbb6).1; have e6 := cell_at (i := 0) hbb6 rfl; have X0 := A0.keep RPair.ok hb1 (fun _ h => h.elim) (fun k hk => by have := (A0.lt k hk).1; omega)))
        all_goals
          have hkr := Lib.hid (fun k (hk : (Value.slice a0 l0 c0).ownBlock = some k) => X0.lt k hk)
          have X1 := A1.keep RPair.ok hb1 (fun _ h => h.elim) (fun k hk => by have := (A1.lt k hk).1; omega)
          have X2 := A2.keep RStr.ok hb1 (fun _ h => h.elim) (fun k hk => by have := (A2.lt k hk).1; omega)
          have X3 := A3.keep RTurn.ok hb1 (fun _ h => h.elim) (fun k hk => by have := (A3.lt k hk).1; omega)
          have hbut8 : But σ.b w w8 := (hw4.trans hb1).trans2 hk8 (fun i hi _ e => by have := hkr.out i e; omega)
          have hs8 := hs6.kept hk8 (fun k hk e => by have := hkr.out k e; omega)
          have hrb8 := hk8.heap (hb1.heap hrb4 (by omega)) (fun e => U0.out rb e rfl)
          have Y1 := X1.keep RPair.ok hk8 (fun _ h => h.elim) (fun k h1 h2 => hdis k h2 h1)
          have Y2 := X2.keep RStr.ok hk8 (fun _ h => h.elim) (X2.apart X0 (by decide))
          have Y3 := X3.keep RTurn.ok hk8 (fun _ h => h.elim) (X3.apart X0 (by decide))
          have hset : Kept (fun k => k ≠ bb) w8 (w8.setCell ⟨bb, 0, none⟩ (.slice p8 (b.pairs.length + 1) c8)) := Kept.setCell w8 _ _ (by simp)
          have Z1 := Lib.hid (Y1.keep RPair.ok hset (fun _ h => h.elim) T1.out)
          have Z2 := Lib.hid (Y2.keep RStr.ok hset (fun _ h => h.elim) T2.out)
          have Z3 := Lib.hid (Y3.keep RTurn.ok hset (fun _ h => h.elim) T3.out)
          have Z0 := Lib.hid (hacc8.keep RPair.ok hset (fun _ h => h.elim) (hacc8.notType hbb8 (by decide)))
          have hbb9 := heap_setCell_at w8 bb 0 (.slice p8 (b.pairs.length + 1) c8) _ _ _ hbb8
          simp only [List.setIfInBounds_toArray, List.set_cons_zero] at hbb9
          have HBB9 := Lib.hid hbb9
          have HRB9 := Lib.hid (hset.heap hrb8 (show rb ≠ bb by omega))
          have HS9 := Lib.hid (hs8.set ⟨bb, 0, none⟩ (.slice p8 (b.pairs.length + 1) c8) hσb)
          have HW9 := Lib.hid (hbut8.then_setNew ⟨bb, 0, none⟩ (.slice p8 (b.pairs.length + 1) c8) (show w.heap.size ≤ bb by omega))
          have HD9 := Lib.hid (show ∀ k, (Value.slice p8 (b.pairs.length + 1) c8).ownBlock = some k → (Value.slice a1 l1 c1).ownBlock ≠ some k from fun k h1 h2 => by
            rcases hat8 with e | e
            · rw [e] at h1; exact hdis k h1 h2
            · rw [e] at h1; cases h1; have := (X1.lt _ h2).2; (first | omega | (simp at this; omega)))
          have hpl : (b.pairs ++ [(Pair2.mk y ⟨#[98, 111, 98]⟩ hyz (by decide))]).length ≤ 60 := by simp; have := HL0.out; have := HL1.out; have := HL0.out; omega
          clear hgrow hacc8 hk8 hbb8 hbut8 hs8 hrb8 hset hbb9 hat8 X0 X1 X2 X3 Y1 Y2 Y3 A0 A1 A2 A3 hs5 hs6 hb6 hb1 hdis hsd hpk hkd
          go_wp2_with fail
          go_meet
          exact ⟨_, _, _, _, ⟨b.pairs ++ [(Pair2.mk y ⟨#[98, 111, 98]⟩ hyz (by decide))], b.barred, b.heads, b.turns⟩, n6, HBB9.out, hpl, by have := HL1.out; dsimp only; omega, by have := HL2.out; dsimp only; omega, by have := HL3.out; dsimp only; omega, Z0.out, Z1.out, Z2.out, Z3.out, HD9.out, HS9.out, by omega, by omega, HW9.out, HRB9.out⟩
      · skip
        have hb1 : But σ.b w4 w4 := Kept.refl _ _
        have hs6 := hs5
        have hb6 := hb1
        have hsd := hs5
        have hpk := hs5
        have hkd := hs5
        have X1 := A1
        have hbb6 := hbb4
        have e0 := cell_at (i := 0) hbb4 rfl
        have e1 := cell_at (i := 1) hbb4 rfl
        have hplb : b.barred.length + b.pairs.length ≤ 1000000 := by have := HL0.out; have := HL1.out; omega
        go_wp2_with (at_builtin; refine wp_appendP _ rfl _ _ 28 rfl w.heap.size 101 32 Tryz.underlying28 (by kernel_rfl) (.slice a1 l1 c1) b.barred rfl A1 w.heap.size (.slice a0 l0 c0) b.pairs rfl A0 hplb (by decide) hwz4 ?_)
        intro p8 c8 w8 hacc8 hgrow hat8
        have hk8 : Kept (fun k => (Value.slice a1 l1 c1).ownBlock ≠ some k) w4 w8 := (Kept.grown (Kept.refl _ _) hgrow (fun k hk => Or.inr (fun h => h hk)))
        have hbb8 := hk8.heap hbb6 (fun e => T1.out bb e rfl)
        have f8 := cell_at (i := 1) hbb8 rfl
        have z8 := frozen_at (i := 1) hbb8
        have hkr := Lib.hid (fun k (hk : (Value.slice a1 l1 c1).ownBlock = some k) => X1.lt k hk)
        have X0 := A0.keep RPair.ok hb1 (fun _ h => h.elim) (fun k hk => by have := (A0.lt k hk).1; omega)
        have X2 := A2.keep RStr.ok hb1 (fun _ h => h.elim) (fun k hk => by have := (A2.lt k hk).1; omega)
        have X3 := A3.keep RTurn.ok hb1 (fun _ h => h.elim) (fun k hk => by have := (A3.lt k hk).1; omega)
        have hbut8 : But σ.b w w8 := (hw4.trans hb1).trans2 hk8 (fun i hi _ e => by have := hkr.out i e; omega)
        have hs8 := hs6.kept hk8 (fun k hk e => by have := hkr.out k e; omega)
        have hrb8 := hk8.heap (hb1.heap hrb4 (by omega)) (fun e => U1.out rb e rfl)
        have Y0 := X0.keep RPair.ok hk8 (fun _ h => h.elim) (fun k h1 h2 => hdis k h1 h2)
        have Y2 := X2.keep RStr.ok hk8 (fun _ h => h.elim) (X2.apart X1 (by decide))
        have Y3 := X3.keep RTurn.ok hk8 (fun _ h => h.elim) (X3.apart X1 (by decide))
        have hset : Kept (fun k => k ≠ bb) w8 (w8.setCell ⟨bb, 1, none⟩ (.slice p8 (b.barred.length + b.pairs.length) c8)) := Kept.setCell w8 _ _ (by simp)
        have Z0 := Lib.hid (Y0.keep RPair.ok hset (fun _ h => h.elim) T0.out)
        have Z2 := Lib.hid (Y2.keep RStr.ok hset (fun _ h => h.elim) T2.out)
        have Z3 := Lib.hid (Y3.keep RTurn.ok hset (fun _ h => h.elim) T3.out)
        have Z1 := Lib.hid (hacc8.keep RPair.ok hset (fun _ h => h.elim) (hacc8.notType hbb8 (by decide)))
        have hbb9 := heap_setCell_at w8 bb 1 (.slice p8 (b.barred.length + b.pairs.length) c8) _ _ _ hbb8
        simp only [List.setIfInBounds_toArray, List.set_cons_succ, List.set_cons_zero] at hbb9
        have HBB9 := Lib.hid hbb9
        have HRB9 := Lib.hid (hset.heap hrb8 (show rb ≠ bb by omega))
        have HS9 := Lib.hid (hs8.set ⟨bb, 1, none⟩ (.slice p8 (b.barred.length + b.pairs.length) c8) hσb)
        have HW9 := Lib.hid (hbut8.then_setNew ⟨bb, 1, none⟩ (.slice p8 (b.barred.length + b.pairs.length) c8) (show w.heap.size ≤ bb by omega))
        have HD9 := Lib.hid (show ∀ k, (Value.slice a0 l0 c0).ownBlock = some k → (Value.slice p8 (b.barred.length + b.pairs.length) c8).ownBlock ≠ some k from fun k h1 h2 => by
          rcases hat8 with e | e
          · rw [e] at h2; exact hdis k h1 h2
          · rw [e] at h2; cases h2; have := (X0.lt _ h1).2; (first | omega | (simp at this; omega)))
        have hpl : (b.barred ++ b.pairs).length ≤ 60 := by simp; have := HL0.out; have := HL1.out; have := HL1.out; omega
        clear hgrow hacc8 hk8 hbb8 hbut8 hs8 hrb8 hset hbb9 hat8 X0 X1 X2 X3 Y0 Y2 Y3 A0 A1 A2 A3 hs5 hs6 hb6 hb1 hdis hsd hpk hkd
        go_wp2_with fail
        go_meet
        exact ⟨_, _, _, _, ⟨b.pairs, b.barred ++ b.pairs, b.heads, b.turns⟩, n4, HBB9.out, by have := HL0.out; dsimp only; omega, hpl, by have := HL2.out; dsimp only; omega, by have := HL3.out; dsimp only; omega, Z0.out, Z1.out, Z2.out, Z3.out, HD9.out, HS9.out, by omega, by omega, HW9.out, HRB9.out⟩
      · skip
        have hla : ((w4.alloc (.cells #[.string ⟨#[]⟩, .string ⟨#[97, 110, 110]⟩, .string ⟨#[65]⟩] 9)).drew).heap[w4.heap.size]? = some (.cells #[.string ⟨#[]⟩, .string ⟨#[97, 110, 110]⟩, .string ⟨#[65]⟩] 9 (0, 0)) := heap_at w4 _ _ rfl
        have hpk : Sl RStr 1 (fun k => k ≠ σ.b) ((w4.alloc (.cells #[.string ⟨#[]⟩, .string ⟨#[97, 110, 110]⟩, .string ⟨#[65]⟩] 9)).drew) (some ⟨w4.heap.size, 0, none⟩) 3 [⟨#[]⟩, ⟨#[97, 110, 110]⟩, ⟨#[65]⟩] := Sl.lit_strs [⟨#[]⟩, ⟨#[97, 110, 110]⟩, ⟨#[65]⟩] hla rfl (by omega)
        have hkd : All w4 ((w4.alloc (.cells #[.string ⟨#[]⟩, .string ⟨#[97, 110, 110]⟩, .string ⟨#[65]⟩] 9)).drew) := (Kept.alloc _ _ _).then_drew
        have hsd : Str σ ((w4.alloc (.cells #[.string ⟨#[]⟩, .string ⟨#[97, 110, 110]⟩, .string ⟨#[65]⟩] 9)).drew) n4 := hs5.keep hkd
        have e2 := cell_at (i := 2) hbb4 rfl
        have d2 := hkd.cell e2 trivial
        have hplb : b.heads.length + 1 ≤ 1000000000 := by have := HL2.out; omega
        clear hla
        go_wp2_with fail
        go_region_law (first
          | (refine step_append1 RStr.ok _ (by rfl) _ _ 26 (by rfl) w.heap.size 9 (.string ⟨#[]⟩) 1 16 Tryz.underlying26 (by kernel_rfl) rfl (by decide) (fun _ => False) (.slice a2 l2 c2) b.heads (by rfl) (X2.keepAll RStr.ok (by repeat (first | exact Kept.refl _ _ | refine Kept.then_drew ?_ | refine Kept.then_drewN ?_ _ | refine Kept.then_alloc ?_ _))) ⟨w6.heap.size, 0, none⟩ 1 [.string y] (by rfl) rfl (World.news_of_block (cs := #[.string y]) (t := 9) (fr := (0, 0)) (heap_alloc_new w6 _)) (by simp [Value.oneCell']) y ⟨rfl, hyz⟩ hplb (by decide) (by have := hb1.size; simp; omega) ?_; intro p8 c8 w8 hacc8 hgrow hat8; have hk8 : Kept (fun k => (Value.slice a2 l2 c2).ownBlock ≠ some k) w6 w8 := (Kept.grown (Kept.all (((by repeat (first | exact Kept.refl _ _ | refine Kept.then_drew ?_ | refine Kept.then_drewN ?_ _ | refine Kept.then_alloc ?_ _))) : All w6 _)) hgrow (fun k hk => Or.inr (fun h => h hk))); have hbb8 := hk8.heap hbb6 (fun e => T2.out bb e rfl); have f8 := cell_at (i := 2) hbb8 rfl; have z8 := frozen_at (i := 2) hbb8)
          | (go_simp; go_at_call 52; refine (some10_any σ n4 _ 3 3 [⟨#[]⟩, ⟨#[97, 110, 110]⟩, ⟨#[65]⟩] _ hsd (by omega) hpk (by omega) (by omega)).mono ?_; rintro e w6 ⟨v, n6, rfl, ⟨y, rfl, -, hyz⟩, hn7, hn8, hs6, hb6⟩; have hb1 : But σ.b w4 w6 := (Kept.all hkd).trans hb6; have hbb6 := hb1.heap hbb4 (by omega); have hlb6 : bb < w6.heap.size := (Array.getElem?_eq_some_iff.1 hbb6).1; have e6 := cell_at (i := 2) hbb6 rfl; have X2 := A2.keep RStr.ok hb1 (fun _ h => h.elim) (fun k hk => by have := (A2.lt k hk).1; omega)))
        all_goals
          have hkr := Lib.hid (fun k (hk : (Value.slice a2 l2 c2).ownBlock = some k) => X2.lt k hk)
          have X0 := A0.keep RPair.ok hb1 (fun _ h => h.elim) (fun k hk => by have := (A0.lt k hk).1; omega)
          have X1 := A1.keep RPair.ok hb1 (fun _ h => h.elim) (fun k hk => by have := (A1.lt k hk).1; omega)
          have X3 := A3.keep RTurn.ok hb1 (fun _ h => h.elim) (fun k hk => by have := (A3.lt k hk).1; omega)
          have hbut8 : But σ.b w w8 := (hw4.trans hb1).trans2 hk8 (fun i hi _ e => by have := hkr.out i e; omega)
          have hs8 := hs6.kept hk8 (fun k hk e => by have := hkr.out k e; omega)
          have hrb8 := hk8.heap (hb1.heap hrb4 (by omega)) (fun e => U2.out rb e rfl)
          have Y0 := X0.keep RPair.ok hk8 (fun _ h => h.elim) (X0.apart X2 (by decide))
          have Y1 := X1.keep RPair.ok hk8 (fun _ h => h.elim) (X1.apart X2 (by decide))
          have Y3 := X3.keep RTurn.ok hk8 (fun _ h => h.elim) (X3.apart X2 (by decide))
          have hset : Kept (fun k => k ≠ bb) w8 (w8.setCell ⟨bb, 2, none⟩ (.slice p8 (b.heads.length + 1) c8)) := Kept.setCell w8 _ _ (by simp)
          have Z0 := Lib.hid (Y0.keep RPair.ok hset (fun _ h => h.elim) T0.out)
          have Z1 := Lib.hid (Y1.keep RPair.ok hset (fun _ h => h.elim) T1.out)
          have Z3 := Lib.hid (Y3.keep RTurn.ok hset (fun _ h => h.elim) T3.out)
          have Z2 := Lib.hid (hacc8.keep RStr.ok hset (fun _ h => h.elim) (hacc8.notType hbb8 (by decide)))
          have hbb9 := heap_setCell_at w8 bb 2 (.slice p8 (b.heads.length + 1) c8) _ _ _ hbb8
          simp only [List.setIfInBounds_toArray, List.set_cons_succ, List.set_cons_zero] at hbb9
          have HBB9 := Lib.hid hbb9
          have HRB9 := Lib.hid (hset.heap hrb8 (show rb ≠ bb by omega))
          have HS9 := Lib.hid (hs8.set ⟨bb, 2, none⟩ (.slice p8 (b.heads.length + 1) c8) hσb)
          have HW9 := Lib.hid (hbut8.then_setNew ⟨bb, 2, none⟩ (.slice p8 (b.heads.length + 1) c8) (show w.heap.size ≤ bb by omega))
          have HD9 := Lib.hid hdis
          have hpl : (b.heads ++ [y]).length ≤ 60 := by simp; have := HL0.out; have := HL1.out; have := HL2.out; omega
          clear hgrow hacc8 hk8 hbb8 hbut8 hs8 hrb8 hset hbb9 hat8 X0 X1 X2 X3 Y0 Y1 Y3 A0 A1 A2 A3 hs5 hs6 hb6 hb1 hdis hsd hpk hkd
          go_wp2_with fail
          go_meet
          exact ⟨_, _, _, _, ⟨b.pairs, b.barred, b.heads ++ [y], b.turns⟩, n6, HBB9.out, by have := HL0.out; dsimp only; omega, by have := HL1.out; dsimp only; omega, hpl, by have := HL3.out; dsimp only; omega, Z0.out, Z1.out, Z2.out, Z3.out, HD9.out, HS9.out, by omega, by omega, HW9.out, HRB9.out⟩
      · skip
        have hsd := hs5
        have hpk := hs5
        have hkd := hs5
        have e3 := cell_at (i := 3) hbb4 rfl
        have hplb : b.turns.length + 1 ≤ 1000000000 := by have := HL3.out; omega
        go_wp2_with fail
        go_region_law (first
          | (refine step_append1 RTurn.ok _ (by rfl) _ _ 48 (by rfl) w.heap.size 121 (.agg #[.int .i64 0, .string ⟨#[]⟩, .bool false]) 3 32 Tryz.underlying48 (by kernel_rfl) rfl (by decide) (fun _ => False) (.slice a3 l3 c3) b.turns (by rfl) (X3.keepAll RTurn.ok (by repeat (first | exact Kept.refl _ _ | refine Kept.then_drew ?_ | refine Kept.then_drewN ?_ _ | refine Kept.then_alloc ?_ _))) ⟨w6.heap.size, 0, none⟩ 1 [.int .i64 z, .string y, .bool fl] (by rfl) rfl (World.news_of_block (cs := #[.int .i64 z, .string y, .bool fl]) (t := 121) (fr := (0, 0)) (heap_alloc_new w6 _)) (by simp [Value.oneCell']) (Turn3.mk z y fl) ⟨rfl, hyz⟩ hplb (by decide) (by have := hb1.size; simp; omega) ?_; intro p8 c8 w8 hacc8 hgrow hat8; have hk8 : Kept (fun k => (Value.slice a3 l3 c3).ownBlock ≠ some k) w6 w8 := (Kept.grown (Kept.all (((by repeat (first | exact Kept.refl _ _ | refine Kept.then_drew ?_ | refine Kept.then_drewN ?_ _ | refine Kept.then_alloc ?_ _))) : All w6 _)) hgrow (fun k hk => Or.inr (fun h => h hk))); have hbb8 := hk8.heap hbb6 (fun e => T3.out bb e rfl); have f8 := cell_at (i := 3) hbb8 rfl; have z8 := frozen_at (i := 3) hbb8)
          | (go_simp; go_at_call 66; refine (odd10_any σ n4 0 100 _ (hs5.keep (by repeat (first | exact Kept.refl _ _ | refine Kept.then_drew ?_ | refine Kept.then_drewN ?_ _ | refine Kept.then_alloc ?_ _))) (by omega) (by omega) (by omega) (by omega)).mono ?_; rintro e wa ⟨v, na, rfl, ⟨z, rfl, -⟩, hna1, hna2, hsa, hba⟩; (try have hlitA : wa.heap[w4.heap.size]? = some (.cells #[.string ⟨#[112, 97]⟩, .string ⟨#[65]⟩] 9 (0, 0)) := hba.heap (heap_at w4 (.cells #[.string ⟨#[112, 97]⟩, .string ⟨#[65]⟩] 9) w4.heap.size rfl) (by omega)); have hbA : But σ.b w4 wa := (Kept.all ((by repeat (first | exact Kept.refl _ _ | refine Kept.then_drew ?_ | refine Kept.then_drewN ?_ _ | refine Kept.then_alloc ?_ _)) : All w4 _)).trans hba; have hbb5 := hbA.heap hbb4 (by omega); have hlb5 : bb < wa.heap.size := (Array.getElem?_eq_some_iff.1 hbb5).1; have e5 := cell_at (i := 3) hbb5 rfl; have hlta := hsa.lt)
          | (go_simp; go_at_call 52; (first | refine (some10_any σ na _ 2 2 [⟨#[112, 97]⟩, ⟨#[65]⟩] _ (hsa.keep (by repeat (first | exact Kept.refl _ _ | refine Kept.then_drew ?_ | refine Kept.then_drewN ?_ _ | refine Kept.then_alloc ?_ _))) (by omega) (Sl.lit_strs [⟨#[112, 97]⟩, ⟨#[65]⟩] hlitA rfl (by omega)) (by omega) (by omega)).mono ?_ | refine (some10_any σ na _ 2 2 [⟨#[112, 97]⟩, ⟨#[65]⟩] _ (hsa.keep (by repeat (first | exact Kept.refl _ _ | refine Kept.then_drew ?_ | refine Kept.then_drewN ?_ _ | refine Kept.then_alloc ?_ _))) (by omega) (Sl.lit_strs [⟨#[112, 97]⟩, ⟨#[65]⟩] (heap_at wa _ _ rfl) rfl (by omega)) (by omega) (by omega)).mono ?_); rintro e wb ⟨v, nb, rfl, ⟨y, rfl, -, hyz⟩, hnb1, hnb2, hsb, hbb_⟩; have hbB : But σ.b w4 wb := (hbA.trans (Kept.all ((by repeat (first | exact Kept.refl _ _ | refine Kept.then_drew ?_ | refine Kept.then_drewN ?_ _ | refine Kept.then_alloc ?_ _)) : All wa _))).trans hbb_; have hbb5b := hbB.heap hbb4 (by omega); have hlb5b : bb < wb.heap.size := (Array.getElem?_eq_some_iff.1 hbb5b).1; have e5b := cell_at (i := 3) hbb5b rfl)
          | (go_simp; go_at_call 51; refine (flip_any σ nb 2 _ (hsb.keep (by repeat (first | exact Kept.refl _ _ | refine Kept.then_drew ?_ | refine Kept.then_drewN ?_ _ | refine Kept.then_alloc ?_ _))) (by omega) (by omega) (by omega)).mono ?_; rintro e w6 ⟨v, n6, rfl, ⟨fl, rfl⟩, hnf1, hnf2, hs6, hb6⟩; have hb1 : But σ.b w4 w6 := (hbB.trans (Kept.all ((by repeat (first | exact Kept.refl _ _ | refine Kept.then_drew ?_ | refine Kept.then_drewN ?_ _ | refine Kept.then_alloc ?_ _)) : All wb _))).trans hb6; have hbb6 := hb1.heap hbb4 (by omega); have hlb6 : bb < w6.heap.size := (Array.getElem?_eq_some_iff.1 hbb6).1; have e6 := cell_at (i := 3) hbb6 rfl; have X3 := A3.keep RTurn.ok hb1 (fun _ h => h.elim) (fun k hk => by have := (A3.lt k hk).1; omega)))
        all_goals
          have hkr := Lib.hid (fun k (hk : (Value.slice a3 l3 c3).ownBlock = some k) => X3.lt k hk)
          have X0 := A0.keep RPair.ok hb1 (fun _ h => h.elim) (fun k hk => by have := (A0.lt k hk).1; omega)
          have X1 := A1.keep RPair.ok hb1 (fun _ h => h.elim) (fun k hk => by have := (A1.lt k hk).1; omega)
          have X2 := A2.keep RStr.ok hb1 (fun _ h => h.elim) (fun k hk => by have := (A2.lt k hk).1; omega)
          have hbut8 : But σ.b w w8 := (hw4.trans hb1).trans2 hk8 (fun i hi _ e => by have := hkr.out i e; omega)
          have hs8 := hs6.kept hk8 (fun k hk e => by have := hkr.out k e; omega)
          have hrb8 := hk8.heap (hb1.heap hrb4 (by omega)) (fun e => U3.out rb e rfl)
          have Y0 := X0.keep RPair.ok hk8 (fun _ h => h.elim) (X0.apart X3 (by decide))
          have Y1 := X1.keep RPair.ok hk8 (fun _ h => h.elim) (X1.apart X3 (by decide))
          have Y2 := X2.keep RStr.ok hk8 (fun _ h => h.elim) (X2.apart X3 (by decide))
          have hset : Kept (fun k => k ≠ bb) w8 (w8.setCell ⟨bb, 3, none⟩ (.slice p8 (b.turns.length + 1) c8)) := Kept.setCell w8 _ _ (by simp)
          have Z0 := Lib.hid (Y0.keep RPair.ok hset (fun _ h => h.elim) T0.out)
          have Z1 := Lib.hid (Y1.keep RPair.ok hset (fun _ h => h.elim) T1.out)
          have Z2 := Lib.hid (Y2.keep RStr.ok hset (fun _ h => h.elim) T2.out)
          have Z3 := Lib.hid (hacc8.keep RTurn.ok hset (fun _ h => h.elim) (hacc8.notType hbb8 (by decide)))
          have hbb9 := heap_setCell_at w8 bb 3 (.slice p8 (b.turns.length + 1) c8) _ _ _ hbb8
          simp only [List.setIfInBounds_toArray, List.set_cons_succ, List.set_cons_zero] at hbb9
          have HBB9 := Lib.hid hbb9
          have HRB9 := Lib.hid (hset.heap hrb8 (show rb ≠ bb by omega))
          have HS9 := Lib.hid (hs8.set ⟨bb, 3, none⟩ (.slice p8 (b.turns.length + 1) c8) hσb)
          have HW9 := Lib.hid (hbut8.then_setNew ⟨bb, 3, none⟩ (.slice p8 (b.turns.length + 1) c8) (show w.heap.size ≤ bb by omega))
          have HD9 := Lib.hid hdis
          have hpl : (b.turns ++ [(Turn3.mk z y fl)]).length ≤ 60 := by simp; have := HL0.out; have := HL1.out; have := HL3.out; omega
          clear hgrow hacc8 hk8 hbb8 hbut8 hs8 hrb8 hset hbb9 hat8 X0 X1 X2 X3 Y0 Y1 Y2 A0 A1 A2 A3 hs5 hs6 hb6 hb1 hdis hsd hpk hkd
          go_wp2_with fail
          go_meet
          exact ⟨_, _, _, _, ⟨b.pairs, b.barred, b.heads, b.turns ++ [(Turn3.mk z y fl)]⟩, n6, HBB9.out, by have := HL0.out; dsimp only; omega, by have := HL1.out; dsimp only; omega, by have := HL2.out; dsimp only; omega, hpl, Z0.out, Z1.out, Z2.out, Z3.out, HD9.out, HS9.out, by omega, by omega, HW9.out, HRB9.out⟩
  case rest =>
    clear A0 A1 A2 A3 hbb3 hrb3 hs4 hw3 hdis HL0 HL1 HL2 HL3 hn1 hn2 hn3 hn4
    clear m0 m1 m2 m3
    obtain ⟨v0, v1, v2, v3, b, n', hbb, m0, m1, m2, m3, A0, A1, A2, A3, hdis, hst, hn1, hn2, hbut, hrb⟩ := hcut
    obtain ⟨wo, rfl⟩ : ∃ x : World, x = wc := ⟨_, rfl⟩
    obtain ⟨a0, c0, rfl, -⟩ := A0.form
    obtain ⟨l0, hl0⟩ : ∃ l, l = b.pairs.length := ⟨_, rfl⟩
    rw [← hl0] at A0 hbb hdis
    clear hl0
    obtain ⟨a1, c1, rfl, -⟩ := A1.form
    obtain ⟨l1, hl1⟩ : ∃ l, l = b.barred.length := ⟨_, rfl⟩
    rw [← hl1] at A1 hbb hdis
    clear hl1
    obtain ⟨a2, c2, rfl, -⟩ := A2.form
    obtain ⟨l2, hl2⟩ : ∃ l, l = b.heads.length := ⟨_, rfl⟩
    rw [← hl2] at A2 hbb
    clear hl2
    obtain ⟨a3, c3, rfl, -⟩ := A3.form
    obtain ⟨l3, hl3⟩ : ∃ l, l = b.turns.length := ⟨_, rfl⟩
    rw [← hl3] at A3 hbb
    clear hl3
    have hne0 := A0.notType hrb (by decide)
    have hne1 := A1.notType hrb (by decide)
    have hne2 := A2.notType hrb (by decide)
    have hne3 := A3.notType hrb (by decide)
    have hke : Kept (fun k => k ≠ rb) wo ((((wo.setCell ⟨rb, 0, none⟩ (.slice a0 l0 c0)).setCell ⟨rb, 1, none⟩ (.slice a1 l1 c1)).setCell ⟨rb, 2, none⟩ (.slice a2 l2 c2)).setCell ⟨rb, 3, none⟩ (.slice a3 l3 c3)) := ((((Kept.refl _ _).then_setCell _ _ (by simp)).then_setCell _ _ (by simp)).then_setCell _ _ (by simp)).then_setCell _ _ (by simp)
    have Z0 := Lib.hid (A0.keep RPair.ok hke (fun _ h => h.elim) hne0)
    have Z1 := Lib.hid (A1.keep RPair.ok hke (fun _ h => h.elim) hne1)
    have Z2 := Lib.hid (A2.keep RStr.ok hke (fun _ h => h.elim) hne2)
    have Z3 := Lib.hid (A3.keep RTurn.ok hke (fun _ h => h.elim) hne3)
    have hds := Lib.hid hdis
    have hfs := Lib.hid ((((hst.set ⟨rb, 0, none⟩ (.slice a0 l0 c0) hσr).set ⟨rb, 1, none⟩ (.slice a1 l1 c1) hσr).set ⟨rb, 2, none⟩ (.slice a2 l2 c2) hσr).set ⟨rb, 3, none⟩ (.slice a3 l3 c3) hσr)
    have hfw := Lib.hid ((((hbut.then_setNew ⟨rb, 0, none⟩ (.slice a0 l0 c0) hrw).then_setNew ⟨rb, 1, none⟩ (.slice a1 l1 c1) hrw).then_setNew ⟨rb, 2, none⟩ (.slice a2 l2 c2) hrw).then_setNew ⟨rb, 3, none⟩ (.slice a3 l3 c3) hrw)
    have hfin : ((((wo.setCell ⟨rb, 0, none⟩ (.slice a0 l0 c0)).setCell ⟨rb, 1, none⟩ (.slice a1 l1 c1)).setCell ⟨rb, 2, none⟩ (.slice a2 l2 c2)).setCell ⟨rb, 3, none⟩ (.slice a3 l3 c3)).heap[rb]? = some (.cells #[.slice a0 l0 c0, .slice a1 l1 c1, .slice a2 l2 c2, .slice a3 l3 c3] 50 (0, 0)) := by
      have h0 := heap_setCell_at wo rb 0 (.slice a0 l0 c0) _ _ _ hrb
      have h1 := heap_setCell_at _ rb 1 (.slice a1 l1 c1) _ _ _ h0
      have h2 := heap_setCell_at _ rb 2 (.slice a2 l2 c2) _ _ _ h1
      have h3 := heap_setCell_at _ rb 3 (.slice a3 l3 c3) _ _ _ h2
      simpa using h3
    have e0 := cell_at (i := 0) hbb rfl
    have e1 := cell_at (i := 1) hbb rfl
    have e2 := cell_at (i := 2) hbb rfl
    have e3 := cell_at (i := 3) hbb rfl
    have y0 := cell_at (i := 0) hrb rfl
    have y1 := cell_at (i := 1) hrb rfl
    have y2 := cell_at (i := 2) hrb rfl
    have y3 := cell_at (i := 3) hrb rfl
    have z0 := frozen_at (i := 0) hrb
    have z1 := frozen_at (i := 1) hrb
    have z2 := frozen_at (i := 2) hrb
    have z3 := frozen_at (i := 3) hrb
    have q0 := cell_at (i := 0) hfin rfl
    have q1 := cell_at (i := 1) hfin rfl
    have q2 := cell_at (i := 2) hfin rfl
    have q3 := cell_at (i := 3) hfin rfl
    clear hke hfin hrb hbb A0 A1 A2 A3 hst hbut hdis hne0 hne1 hne2 hne3
    go_wp2_with fail
    refine bodyPost_ret (v := .agg #[.slice a0 l0 c0, .slice a1 l1 c1, .slice a2 l2 c2, .slice a3 l3 c3]) ?_ rfl ⟨_, n', rfl, ⟨_, _, _, _, b, rfl, m0, m1, m2, m3, Z0.out, Z1.out, Z2.out, Z3.out, hds.out⟩, by omega, by omega, hfs.out, hfw.out⟩
    simp [results, Tryz.results20, go_sem, q0, q1, q2, q3]
end Go.Proofs.YtllkemadaemjeaaGreatDoor
