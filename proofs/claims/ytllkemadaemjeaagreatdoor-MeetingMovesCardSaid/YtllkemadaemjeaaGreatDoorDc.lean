/- leaving: who leaves for each paper, in a map of the call's own. -/
import Derived.Test.YtllkemadaemjeaaGreatDoorDa
import Derived.Test.YtllkemadaemjeaaGreatDoorYb
import Derived.Carry
namespace Go.Proofs.YtllkemadaemjeaaGreatDoor
open Go.RowKit

theorem flatPair : Flat RPair encP (fun _ => True) 2 :=
  ⟨fun _ _ _ _ => ⟨fun h => ⟨h, trivial⟩, fun h => h.1⟩, fun _ => rfl, by decide, fun x u hu => by simp [encP] at hu; rcases hu with rfl | rfl <;> rfl⟩
abbrev LV (w : World) (B mb n : Nat) (vals : ByteArray → Value) (f : ByteArray → List ByteArray) : Prop := RowM Tryz.prog 9 RStr 1 9 w B mb n vals f
theorem LV.look {w : World} {B mb n : Nat} {vals : ByteArray → Value} {f : ByteArray → List ByteArray} (h : LV w B mb n vals f) (p : ByteArray) (hp : p.size ≤ 1000000) :
    (Instr.lookup 105 (.map (some mb)) (.string p) false).run Tryz.prog w = .ok (vals p) w :=
  RowM.look h Tryz.underlying9 Tryz.underlying105 (Tryz.zeroValue26 w) p hp
def LeavePost (xs : List Pair2) (w : World) (e : Ending) (w' : World) : Prop :=
  ∃ mb n vals, e = .returned (.map (some mb)) ∧ LV w' w.heap.size mb n vals (leav xs) ∧ All w w'

set_option maxRecDepth 100000 in
set_option maxHeartbeats 6400000 in
theorem leaving_any (a : Option Addr) (len cap : Nat) (xs : List Pair2) (w : World) (hs : Sl RPair 2 (fun _ => True) w a len xs) (hl : len ≤ 1000000) :
    Calls Tryz.prog 57 #[.slice a len cap] w (LeavePost xs w) := by
  have Hlen := Lib.hid hs.len
  have hmm := @run_makeMap Tryz.prog
  have hk0 : All w (w.alloc (.map #[] 0)) := Kept.alloc _ _ _
  have hsc0 : LV _ _ _ _ _ _ := RowM.start Tryz.prog 9 RStr 1 9 w
  obtain ⟨mb, hmb⟩ : ∃ mb, mb = w.heap.size := ⟨_, rfl⟩
  obtain ⟨B, hB⟩ : ∃ B, B = w.heap.size + 1 := ⟨_, rfl⟩
  have HMB := Lib.hid hmb
  have HBW : w.heap.size ≤ B := by omega
  have hmB : mb < B := by omega
  have hB1 : B ≤ (w.alloc (.map #[] 0)).heap.size := by rw [hB]; simp
  rw [← hB, ← hmb] at hsc0
  have HW1 : (w.alloc (.map #[] 0)).heap.size ≤ B := by rw [hB]; simp
  have HWm : w.heap.size ≤ mb := by omega
  replace hs := ((hs.live RPair.ok (by decide)).mono RPair.ok (G := fun k => k ≠ mb) (fun k hk => by have := hk.2; omega)).keep RPair.ok (Kept.alloc _ w (.map #[] 0))
  clear hB hmb
  go_enter Tryz.func57, Tryz.ntmps57
  go_wp2_with fail
  simp only [← HMB.out]
  generalize w.alloc (.map #[] 0) = w1 at *
  go_loopw [9] (fun i wr => ∃ k : Nat, k ≤ len ∧ i = .int .i64 k ∧ ∃ n vals, n ≤ k ∧ LV wr B mb n vals (leav (xs.take k)) ∧ But mb w1 wr) (fun i _ => len - (intOf i).toNat)
  case atStart => exact ⟨0, Nat.zero_le _, rfl, 0, _, Nat.zero_le _, hsc0, Kept.refl _ _⟩
  case round =>
    clear hsc0 hmm
    obtain ⟨k, hk, rfl, n, vals, hnk, hsc, hwr⟩ := hrel
    obtain ⟨wo, rfl⟩ : ∃ wo : World, wo = wr := ⟨_, rfl⟩
    by_cases hlt : k < len
    · obtain ⟨b, off, x, ha, -, c0, c1, hx, -, hxt⟩ := (hs.keep RPair.ok hwr).atPair hlt
      subst ha
      have hz1 := x.h1
      have hz2 := x.h2
      have HXT := Lib.hid hxt
      have hblk := heap_at wo (.cells #[.string x.paper, .string x.person] 101) _ rfl
      have e0 := cell_at (i := 0) hblk rfl
      have e1 := cell_at (i := 1) hblk rfl
      have hwa := hwr.then_alloc (.cells #[.string x.paper, .string x.person] 101)
      have hsca : LV _ _ _ _ _ _ := RowM.keep flatStr hsc (Kept.alloc (fun _ => True) wo (.cells #[.string x.paper, .string x.person] 101))
      have hfl : (leav (xs.take k) x.paper).length + 1 ≤ 1000000000 := by
        have h1 := leav_len (xs.take k) x.paper
        have h2 := List.length_take_le k xs
        omega
      have hwas := hwa.size
      have hrow : ∀ k, (vals x.paper).ownBlock = some k → k < wo.heap.size := fun k hk => ((hsc.acc x.paper).lt k hk).2
      clear hx hxt hblk hsc hwr
      go_wp2_with fail
      generalize wo.alloc (.cells #[.string x.paper, .string x.person] 101) = wa at *
      have l1 := LV.look (RowM.keep flatStr hsca (Kept.drew (fun _ => True) wa)) x.paper hz1
      have l2 := LV.look (RowM.keep flatStr hsca ((by repeat (first | exact Kept.refl _ _ | refine Kept.then_drew ?_ | refine Kept.then_drewN ?_ _ | refine Kept.then_alloc ?_ _)) : All wa (wa.alloc (.cells #[.string x.person] 9)).drew)) x.paper hz1
      have hBa : B ≤ wa.heap.size := by omega
      have hka : All wa (wa.alloc (.cells #[.string x.person] 9)).drew := (by repeat (first | exact Kept.refl _ _ | refine Kept.then_drew ?_ | refine Kept.then_drewN ?_ _ | refine Kept.then_alloc ?_ _))
      have e0' := hka.cell e0 trivial
      have e1' := hka.cell e1 trivial
      obtain ⟨vp, hvp⟩ : ∃ vp, vp = vals x.paper := ⟨_, rfl⟩
      have HVP := Lib.hid hvp
      have haccp := hsca.acc x.paper
      rw [← hvp] at l1 l2 haccp
      clear hvp
      go_region_law (first
        | (refine step_append1 RStr.ok _ (by rfl) _ _ 26 (by rfl) B 9 (.string ⟨#[]⟩) 1 16 Tryz.underlying26 (by kernel_rfl) rfl (by decide) (fun _ => False) vp (leav (xs.take k) x.paper) (by rfl) (haccp.keepAll RStr.ok (by repeat (first | exact Kept.refl _ _ | refine Kept.then_drew ?_ | refine Kept.then_drewN ?_ _ | refine Kept.then_alloc ?_ _))) ⟨wa.heap.size, 0, none⟩ 1 [.string x.person] (by rfl) rfl (World.news_of_block (cs := #[.string x.person]) (t := 9) (fr := (0, 0)) (heap_alloc_new wa _)) (by simp [Value.oneCell']) x.person ⟨rfl, hz2⟩ hfl (by decide) (by simp; omega) ?_; intro p7 c7 w7 hacc7 hgrow hat7; rw [HVP.out] at hgrow hat7; have e07 := grown_cellM hgrow e0' (fun e => by have := hrow _ e; dsimp only at this; omega); obtain ⟨w8, hput, hm8, hb8⟩ := RowM.putAt (te := 26) hsca Tryz.underlying9 Tryz.underlying105 hmB hgrow (by repeat (first | exact Kept.refl _ _ | refine Kept.then_drew ?_ | refine Kept.then_drewN ?_ _ | refine Kept.then_alloc ?_ _)) (by omega) hz1 (Value.slice p7 ((leav (xs.take k) x.paper).length + 1) c7)))
      all_goals
        have hpush := Lib.hid (RowM.push flatStr (RowM.keep flatStr hsca hka) hmB hacc7 hgrow hat7 hm8 hb8)
        have hk8 : But mb w1 w8 := ((hwa.trans (Kept.all hka)).grown hgrow (fun k hk => Or.inl (by have := ((hsca.acc x.paper).lt k hk).1; omega))).trans hb8
        have hfe := Lib.hid (show (fun q => if q = x.paper then leav (xs.take k) x.paper ++ [x.person] else leav (xs.take k) q) = leav (xs.take (k + 1)) from funext fun q => by
          rw [HXT.out, leav_snoc]
          by_cases hq : q = x.paper
          · subst hq; simp
          · have hq' : ¬ x.paper = q := fun e => hq e.symm
            simp [hq, hq'])
        clear hput e07 hgrow hat7 hm8 hb8 hacc7 l1 l2 hsca haccp
        go_wp2_with fail
        go_roundw
        case rel => exact ⟨k + 1, by omega, by go_num, n + 1, _, by omega, by rw [← hfe.out]; exact hpush.out, hk8⟩
        case measure => simp [intOf]; omega
    · have hd : decide ((k : Int) < (len : Int)) = false := by simp; omega
      have hxe : xs.take k = xs := List.take_of_length_le (by have := Hlen.out; omega)
      rw [hxe] at hsc
      have hall := Lib.hid (show All w wo from hk0.trans2 hwr (fun i hi _ => by omega))
      go_wp2_with fail
      go_ret
      exact ⟨mb, n, vals, rfl, ⟨hsc.map, fun p => (hsc.acc p).base0 HBW, hsc.nil, hsc.sep⟩, hall.out⟩
end Go.Proofs.YtllkemadaemjeaaGreatDoor
