/- The generator pairs10. -/
import Derived.Test.YtllkemadaemjeaaGreatDoorSc
import Derived.Test.YtllkemadaemjeaaGreatDoorZc
namespace Go.Proofs.YtllkemadaemjeaaGreatDoor
open Go.RowKit

def IsPairs (B mx : Nat) (v : Value) (w : World) : Prop := ∃ ps : List Pair2, ps.length ≤ mx ∧ Acc RPair 2 101 (fun _ => False) B w v ps

set_option maxRecDepth 100000 in
set_option maxHeartbeats 6400000 in
theorem pairs10_any (σ : St) (n : Nat) (ap : Option Addr) (lp cp : Nat) (pp : List ByteArray) (aq : Option Addr) (lq cq : Nat) (qq : List ByteArray) (M : Nat) (w : World) (hs : Str σ w n) (hn : n ≤ 4611686018427300000)
    (hpap : Sl RStr 1 (fun k => k ≠ σ.b) w ap lp pp) (hppl : Sl RStr 1 (fun k => k ≠ σ.b) w aq lq qq) (h1 : 1 ≤ lp) (h2 : lp ≤ 100) (h3 : 1 ≤ lq) (h4 : lq ≤ 100) (hM : M ≤ 20) :
    Calls Tryz.prog 53 #[.pointer (some ⟨σ.b, 0, none⟩), .slice ap lp cp, .slice aq lq cq, .int .i64 M] w (StPost σ n 40 w (IsPairs w.heap.size 20)) := by
  have hlt := hs.lt
  obtain ⟨bp, op, hap, hFp, hrowp⟩ := hpap.strs (by omega)
  obtain ⟨bq, oq, haq, hFq, hrowq⟩ := hppl.strs (by omega)
  subst hap
  subst haq
  have HP := Lib.hid hrowp
  have HQ := Lib.hid hrowq
  have hd1 : decide ((0 : Int) < (lp : Int)) = true := by simp; omega
  have hd2 : decide ((0 : Int) < (lq : Int)) = true := by simp; omega
  have hd1' : decide (0 < lp) = true := by simp; omega
  have hd2' : decide (0 < lq) = true := by simp; omega
  clear hrowp hrowq hpap hppl
  go_enter Tryz.func53, Tryz.ntmps53
  go_wp2_with fail
  go_loopw [9, 11] (fun o i wr => ∃ k : Nat, k ≤ M ∧ i = .int .i64 k ∧ ∃ (ps : List Pair2) (n' : Nat), ps.length ≤ k ∧ Acc RPair 2 101 (fun _ => False) w.heap.size wr o ps ∧ Str σ wr n' ∧ n ≤ n' ∧ n' ≤ n + 2 * k ∧ But σ.b w wr) (fun _ i _ => M - (intOf i).toNat)
  case atStart => exact ⟨0, Nat.zero_le _, rfl, [], n, Nat.le_refl _, Acc.nil _ _ _ _ _ _, hs, Nat.le_refl _, by omega, Kept.refl _ _⟩
  case round =>
    obtain ⟨k, hk, rfl, ps, n', hpl, hacc, hs', hn1, hn2, hwr⟩ := hrel
    obtain ⟨wo, rfl⟩ : ∃ wo : World, wo = wr := ⟨_, rfl⟩
    by_cases hlt2 : k < M
    · have tokA : True := trivial
      have tokB : True := trivial
      have hbase := hwr.size
      have hplb : ps.length + 1 ≤ 1000000000 := by omega
      have hlt3 := hs'.lt
      go_wp2_with fail
      go_region_law (first
        | (refine step_append1 RPair.ok _ (by rfl) _ _ 28 (by rfl) w.heap.size 101 (.agg #[.string ⟨#[]⟩, .string ⟨#[]⟩]) 2 32 Tryz.underlying28 (by kernel_rfl) rfl (by decide) (fun _ => False) u9 ps (by rfl) (hacc2.keepAll RPair.ok (by repeat (first | exact Kept.refl _ _ | refine Kept.then_drew ?_ | refine Kept.then_drewN ?_ _ | refine Kept.then_alloc ?_ _))) ⟨w7.heap.size, 0, none⟩ 1 [.string y1, .string y2] (by rfl) rfl (World.news_of_block (cs := #[.string y1, .string y2]) (t := 101) (fr := (0, 0)) (heap_alloc_new w7 _)) (by simp [Value.oneCell']) ⟨y1, y2, hz1, hz2⟩ rfl hplb (by decide) (by have := hb2.size; simp; omega) ?_; intro p8 c8 w8 hacc8 hgrow hat8)
        | (go_simp; go_at_call 54; have _t := tokA; refine (next_any σ n' lp _ (hs'.keep (by repeat (first | exact Kept.refl _ _ | refine Kept.then_drew ?_ | refine Kept.then_drewN ?_ _ | refine Kept.then_alloc ?_ _))) (by omega) (by omega) (by omega)).mono ?_; rintro e w6 ⟨v, n6, rfl, ⟨r1, rfl, hr1, hr2⟩, hn3, hn4, hs6, hb6⟩; obtain ⟨i1, rfl⟩ := Int.eq_ofNat_of_zero_le hr1; have hb1 : But σ.b w w6 := (hwr.trans (Kept.all ((by repeat (first | exact Kept.refl _ _ | refine Kept.then_drew ?_ | refine Kept.then_drewN ?_ _ | refine Kept.then_alloc ?_ _)) : All wo _))).trans hb6; have hacc1 := (hacc.keepAll RPair.ok ((by repeat (first | exact Kept.refl _ _ | refine Kept.then_drew ?_ | refine Kept.then_drewN ?_ _ | refine Kept.then_alloc ?_ _)) : All wo _)).keep RPair.ok hb6 (fun _ h => h.elim) (fun k hk => by have := (hacc.lt k hk).1; omega); obtain ⟨y1, hy1⟩ : ∃ y1, y1 = pp.getD i1 ByteArray.empty := ⟨_, rfl⟩; have cy1 := hb1.cell (HP.out i1 (by omega)).1 hFp; have hz1 := (HP.out i1 (by omega)).2; rw [← hy1] at cy1 hz1; have HY1 := Lib.hid hy1; clear tokA hy1)
        | (go_simp; go_at_call 54; have _t := tokB; refine (next_any σ n6 lq _ (hs6.keep (by repeat (first | exact Kept.refl _ _ | refine Kept.then_drew ?_ | refine Kept.then_drewN ?_ _ | refine Kept.then_alloc ?_ _))) (by omega) (by omega) (by omega)).mono ?_; rintro e w7 ⟨v, n7, rfl, ⟨r2, rfl, hr3, hr4⟩, hn5, hn6', hs7, hb7⟩; obtain ⟨i2, rfl⟩ := Int.eq_ofNat_of_zero_le hr3; have hb2 : But σ.b w w7 := (hb1.trans (Kept.all ((by repeat (first | exact Kept.refl _ _ | refine Kept.then_drew ?_ | refine Kept.then_drewN ?_ _ | refine Kept.then_alloc ?_ _)) : All w6 _))).trans hb7; have hacc2 := (hacc1.keepAll RPair.ok ((by repeat (first | exact Kept.refl _ _ | refine Kept.then_drew ?_ | refine Kept.then_drewN ?_ _ | refine Kept.then_alloc ?_ _)) : All w6 _)).keep RPair.ok hb7 (fun _ h => h.elim) (fun k hk => by have := (hacc1.lt k hk).1; omega); obtain ⟨y2, hy2⟩ : ∃ y2, y2 = qq.getD i2 ByteArray.empty := ⟨_, rfl⟩; have cy2 := hb2.cell (HQ.out i2 (by omega)).1 hFq; have hz2 := (HQ.out i2 (by omega)).2; have cy1' := hb2.cell (HP.out i1 (by omega)).1 hFp; rw [← HY1.out] at cy1'; rw [← hy2] at cy2 hz2; clear tokB hy2))
      all_goals
        have hkr := Lib.hid (fun k (hk : u9.ownBlock = some k) => (hacc2.lt k hk).1)
        have hk8 : Kept (fun k => u9.ownBlock ≠ some k) w7 w8 := (Kept.grown (Kept.all ((by repeat (first | exact Kept.refl _ _ | refine Kept.then_drew ?_ | refine Kept.then_drewN ?_ _ | refine Kept.then_alloc ?_ _)) : All w7 _)) hgrow (fun k hk => Or.inr (fun h => h hk)))
        have hw8 : But σ.b w w8 := hb2.trans2 hk8 (fun i hi _ e => by have := hkr.out i e; omega)
        have hs8 := hs7.kept hk8 (fun k hk e => by have := hkr.out k e; omega)
        clear hgrow hat8 hacc2 hacc1 hacc hk8 hb2 hb1 hb7 hb6 hs7 hs6 hs' hwr cy1 cy1' cy2
        go_wp2_with fail
        go_roundw
        case rel => exact ⟨k + 1, by omega, by go_num, _, n7, by simp; omega, hacc8, hs8, by omega, by omega, hw8⟩
        case measure => simp [intOf]; omega
    · have hdk : decide ((k : Int) < (M : Int)) = false := by simp; omega
      have hkr : ∀ k, u9.ownBlock = some k → w.heap.size ≤ k := fun k hk => (hacc.lt k hk).1
      have HKR := Lib.hid hkr
      clear hkr
      go_wp2_with fail
      refine (sortP_any u9 ps _ hacc (by omega)).mono ?_
      rintro e w3 ⟨rfl, qs, hql, hacc3, hg3⟩
      have hk3 : Kept (fun k => u9.ownBlock ≠ some k) wo w3 := ⟨hg3.os, hg3.tape, hg3.output, hg3.size, fun k hk hf => hg3.block k hk (fun e => hf e.symm)⟩
      go_wp2_with fail
      refine (compactP_any _ qs _ hacc3 (by omega)).mono ?_
      rintro e w4 ⟨v4, rs, rfl, hrl, hacc4, hk4, -⟩
      have hk5 := hk3.trans hk4
      have hw5 : But σ.b w w4 := hwr.trans2 hk5 (fun i hi _ e => by have := HKR.out i e; omega)
      have hs5 := hs'.kept hk5 (fun k hk e => by have := HKR.out k e; omega)
      obtain ⟨a4, c4, rfl, -⟩ := hacc4.form
      clear hacc hacc3 hg3 hk3 hk4 hk5 hs' hwr
      go_wp2_with fail
      go_ret
      exact ⟨_, n', rfl, ⟨rs, by omega, hacc4⟩, hn1, by omega, hs5, hw5⟩
end Go.Proofs.YtllkemadaemjeaaGreatDoor
