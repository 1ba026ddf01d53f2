/- scoresOf: the scores of each paper, sorted, in a map of the call's own. -/
import Derived.Test.YtllkemadaemjeaaGreatDoorSa
import Derived.Test.YtllkemadaemjeaaGreatDoorMb
import Derived.Carry
namespace Go.Proofs.YtllkemadaemjeaaGreatDoor
open Go.RowKit

/-- The map in block mb holds, at each paper that has scores, a row of the call's own (from block B on) with the scores f. -/
structure SC (w : World) (B mb n : Nat) (vals : ByteArray → Value) (f : ByteArray → List Int) : Prop where
  map : MapS Tryz.prog 9 w mb n (fun p => if f p = [] then none else some (vals p))
  acc : ∀ p, Acc RInt 1 3 (fun _ => False) B w (vals p) (f p)
  nil : ∀ p, f p = [] → vals p = .slice none 0 0
  sep : ∀ p q k, p ≠ q → (vals p).ownBlock = some k → (vals q).ownBlock ≠ some k
theorem SC.start (w : World) : SC (w.alloc (.map #[] 0)) (w.heap.size + 1) w.heap.size 0 (fun _ => .slice none 0 0) (fun _ => []) :=
  ⟨(MapS.made Tryz.prog 9 w).congr (fun _ => by simp), fun _ => Acc.nil _ _ _ _ _ _, fun _ _ => rfl, fun p q k _ h => by simp [Value.ownBlock] at h⟩
section
variable {w w' w2 : World} {B mb n : Nat} {vals : ByteArray → Value} {f : ByteArray → List Int}
theorem SC.keep (h : SC w B mb n vals f) (k : All w w') : SC w' B mb n vals f :=
  ⟨h.map.keep k trivial, fun p => (h.acc p).keepAll RInt.ok k, h.nil, h.sep⟩
theorem SC.look (h : SC w B mb n vals f) {t : TypeId} (ht : Tryz.prog.underlying t = some (.map 9 22)) (p : ByteArray) (hp : p.size ≤ 1000000) :
    (Instr.lookup t (.map (some mb)) (.string p) false).run Tryz.prog w = .ok (vals p) w := by
  have h1 := h.map.look Tryz.underlying9 ht (Tryz.zeroValue22 w) p hp
  rw [h1]
  by_cases hf : f p = []
  · simp [hf, h.nil p hf]
  · simp [hf]
/-- The map is written to. -/
theorem SC.putAt {W0 : World} {t : TypeId} (h : SC w B mb n vals f) (ht : Tryz.prog.underlying t = some (.map 9 22)) (hmB : mb < B) {p : ByteArray} (hg : W0.grownBy w' (vals p).ownBlock) (hk : All w W0) (hn : n ≤ 1000000) (hp : p.size ≤ 1000000) (v' : Value) :
    ∃ w2, (Instr.mapUpdate t (.map (some mb)) (.string p) v').run Tryz.prog w' = .ok () w2 ∧ MapS Tryz.prog 9 w2 mb (n + 1) (putS (fun p => if f p = [] then none else some (vals p)) p v') ∧ But mb w' w2 := by
  have h0 := h.map.keep hk trivial
  have hkp : Kept (fun k => (vals p).ownBlock ≠ some k) W0 w' := ⟨hg.os, hg.tape, hg.output, hg.size, fun k hk hf => hg.block k hk (fun e => hf e.symm)⟩
  have h1 := h0.keep hkp (fun e => by have := ((h.acc p).lt _ e).1; omega)
  exact h1.put Tryz.underlying9 ht hn p hp v'
/-- One score more. -/
theorem SC.push (h : SC w B mb n vals f) (hmB : mb < B) {p : ByteArray} {x : Int} {v' : Value} (hacc : Acc RInt 1 3 (fun _ => False) B w' v' (f p ++ [x])) (hg : w.grownBy w' (vals p).ownBlock) (hat : v'.ownBlock = (vals p).ownBlock ∨ v'.ownBlock = some w.heap.size)
    (hm : MapS Tryz.prog 9 w2 mb (n + 1) (putS (fun p => if f p = [] then none else some (vals p)) p v')) (hb : But mb w' w2) :
    SC w2 B mb (n + 1) (fun q => if q = p then v' else vals q) (fun q => if q = p then f p ++ [x] else f q) := by
  have hkp : Kept (fun k => (vals p).ownBlock ≠ some k) w w' := ⟨hg.os, hg.tape, hg.output, hg.size, fun k hk hf => hg.block k hk (fun e => hf e.symm)⟩
  refine ⟨hm.congr (fun q => ?_), fun q => ?_, fun q hq => ?_, fun a b k hab ha => ?_⟩
  · by_cases hq : q = p
    · subst hq; simp [putS]
    · simp [putS, hq]
  · by_cases hq : q = p
    · subst hq
      simp only [if_true]
      exact hacc.keep RInt.ok hb (fun _ h => h.elim) (fun k hk => by have := (hacc.lt k hk).1; omega)
    · simp only [hq, if_false]
      have h1 := (h.acc q).keep RInt.ok hkp (fun _ h => h.elim) (fun k hk e => h.sep q p k hq hk e)
      exact h1.keep RInt.ok hb (fun _ h => h.elim) (fun k hk => by have := (h1.lt k hk).1; omega)
  · by_cases hqp : q = p
    · simp [hqp] at hq
    · simp only [hqp, if_false] at hq ⊢
      exact h.nil q hq
  · by_cases hap : a = p
    · subst hap
      have hbp : ¬ b = a := fun e => hab e.symm
      simp only [if_true] at ha
      simp only [hbp, if_false]
      rcases hat with e | e
      · rw [e] at ha; exact h.sep a b k hab ha
      · rw [e] at ha
        cases ha
        intro hk
        have := ((h.acc b).lt _ hk).2
        omega
    · simp only [hap, if_false] at ha
      by_cases hbp : b = p
      · subst hbp
        simp only [if_true]
        intro hk
        rcases hat with e | e
        · rw [e] at hk; exact h.sep a b k hab ha hk
        · rw [e] at hk
          cases hk
          have := ((h.acc a).lt _ ha).2
          omega
      · simp only [hbp, if_false]
        exact h.sep a b k hab ha
end

theorem grown_cell {W0 w7 : World} {row : Option Nat} {p : Addr} {v : Value} (hg : W0.grownBy w7 row) (hc : W0.cell? p = some v) (hne : row ≠ some p.block) : w7.cell? p = some v := by
  have hk : Kept (fun k => row ≠ some k) W0 w7 := ⟨hg.os, hg.tape, hg.output, hg.size, fun k hk hf => hg.block k hk (fun e => hf e.symm)⟩
  exact hk.cell hc hne
def ScoresPost (xs : List Mark3) (w : World) (e : Ending) (w' : World) : Prop :=
  ∃ mb n vals, e = .returned (.map (some mb)) ∧ SC w' w.heap.size mb n vals (fun p => srtI (scs xs p)) ∧ All w w'

set_option maxRecDepth 100000 in
set_option maxHeartbeats 6400000 in
theorem scoresOf_any (a : Option Addr) (len cap : Nat) (xs : List Mark3) (w : World) (hs : Sl RMark 3 (fun _ => True) w a len xs) (hl : len ≤ 3000) :
    Calls Tryz.prog 113 #[.slice a len cap] w (ScoresPost xs w) := by
  have Hlen := Lib.hid hs.len
  have hmm := @run_makeMap Tryz.prog
  have hk0 : All w (w.alloc (.map #[] 0)) := Kept.alloc _ _ _
  have hsc0 := SC.start w
  obtain ⟨mb, hmb⟩ : ∃ mb, mb = w.heap.size := ⟨_, rfl⟩
  obtain ⟨B, hB⟩ : ∃ B, B = w.heap.size + 1 := ⟨_, rfl⟩
  have HB := Lib.hid hB
  have HMB := Lib.hid hmb
  have hmB : mb < B := by omega
  have hB1 : B ≤ (w.alloc (.map #[] 0)).heap.size := by rw [hB]; simp
  rw [← hB, ← hmb] at hsc0
  have HW1 : (w.alloc (.map #[] 0)).heap.size ≤ B := by rw [hB]; simp
  have HWm : w.heap.size ≤ mb := by omega
  replace hs := ((hs.live RMark.ok (by decide)).mono RMark.ok (G := fun k => k ≠ mb) (fun k hk => by have := hk.2; omega)).keep RMark.ok (Kept.alloc _ w (.map #[] 0))
  clear hB hmb
  go_enter Tryz.func113, Tryz.ntmps113
  go_wp2_with fail
  simp only [← HMB.out]
  generalize w.alloc (.map #[] 0) = w1 at *
  go_loopw [11] (fun i wr => ∃ k : Nat, k ≤ len ∧ i = .int .i64 k ∧ ∃ n vals, n ≤ k ∧ SC wr B mb n vals (scs (xs.take k)) ∧ But mb w1 wr) (fun i _ => len - (intOf i).toNat)
  case atStart => exact ⟨0, Nat.zero_le _, rfl, 0, _, Nat.zero_le _, hsc0, Kept.refl _ _⟩
  case round =>
    clear hsc0 hmm
    obtain ⟨k, hk, rfl, n, vals, hnk, hsc, hwr⟩ := hrel
    obtain ⟨wo, rfl⟩ : ∃ wo : World, wo = wr := ⟨_, rfl⟩
    by_cases hlt : k < len
    · obtain ⟨b, off, x, ha, -, c0, c1, c2, hz1, hz2, hx, -, hxt⟩ := (hs.keep RMark.ok hwr).atMark hlt
      subst ha
      have HXT := Lib.hid hxt
      have hblk := heap_at wo (.cells #[.string x.paper, .string x.person, .int .i64 x.score] 117) _ rfl
      have e0 := cell_at (i := 0) hblk rfl
      have e2 := cell_at (i := 2) hblk rfl
      have hwa := hwr.then_alloc (.cells #[.string x.paper, .string x.person, .int .i64 x.score] 117)
      have hsca := hsc.keep (Kept.alloc (fun _ => True) wo (.cells #[.string x.paper, .string x.person, .int .i64 x.score] 117))
      have hfl : (scs (xs.take k) x.paper).length + 1 ≤ 1000000000 := by
        have h1 := scs_len (xs.take k) x.paper
        have h2 := List.length_take_le k xs
        omega
      have hwas := hwa.size
      have hrow : ∀ k, (vals x.paper).ownBlock = some k → k < wo.heap.size := fun k hk => ((hsc.acc x.paper).lt k hk).2
      clear hx hxt hblk hsc hwr
      go_wp2_with fail
      generalize wo.alloc (.cells #[.string x.paper, .string x.person, .int .i64 x.score] 117) = wa at *
      have l1 := (hsca.keep (Kept.drew (fun _ => True) wa)).look Tryz.underlying159 x.paper hz1
      have l2 := (hsca.keep ((by repeat (first | exact Kept.refl _ _ | refine Kept.then_drew ?_ | refine Kept.then_drewN ?_ _ | refine Kept.then_alloc ?_ _)) : All wa (wa.alloc (.cells #[.int .i64 x.score] 3)).drew)).look Tryz.underlying159 x.paper hz1
      have hBa : B ≤ wa.heap.size := by omega
      have hka : All wa (wa.alloc (.cells #[.int .i64 x.score] 3)).drew := (by repeat (first | exact Kept.refl _ _ | refine Kept.then_drew ?_ | refine Kept.then_drewN ?_ _ | refine Kept.then_alloc ?_ _))
      have e0' := hka.cell e0 trivial
      have e2' := hka.cell e2 trivial
      obtain ⟨vp, hvp⟩ : ∃ vp, vp = vals x.paper := ⟨_, rfl⟩
      have HVP := Lib.hid hvp
      have haccp := hsca.acc x.paper
      rw [← hvp] at l1 l2 haccp
      clear hvp
      go_region_law (first
        | (refine step_append1 RInt.ok _ (by rfl) _ _ 22 (by rfl) B 3 (.int .i64 0) 1 8 Tryz.underlying22 (by kernel_rfl) rfl (by decide) (fun _ => False) vp (scs (xs.take k) x.paper) (by rfl) (haccp.keepAll RInt.ok (by repeat (first | exact Kept.refl _ _ | refine Kept.then_drew ?_ | refine Kept.then_drewN ?_ _ | refine Kept.then_alloc ?_ _))) ⟨wa.heap.size, 0, none⟩ 1 [.int .i64 x.score] (by rfl) rfl (World.news_of_block (cs := #[.int .i64 x.score]) (t := 3) (fr := (0, 0)) (heap_alloc_new wa _)) (by simp [Value.oneCell']) x.score rfl hfl (by decide) (by simp; omega) ?_; intro p7 c7 w7 hacc7 hgrow hat7; rw [HVP.out] at hgrow hat7; have e07 := grown_cell hgrow e0' (fun e => by have := hrow _ e; dsimp only at this; omega); obtain ⟨w8, hput, hm8, hb8⟩ := hsca.putAt Tryz.underlying159 hmB hgrow (by repeat (first | exact Kept.refl _ _ | refine Kept.then_drew ?_ | refine Kept.then_drewN ?_ _ | refine Kept.then_alloc ?_ _)) (by omega) hz1 (Value.slice p7 ((scs (xs.take k) x.paper).length + 1) c7)))
      all_goals
        have hpush := Lib.hid ((hsca.keep hka).push hmB hacc7 hgrow hat7 hm8 hb8)
        have hk8 : But mb w1 w8 := ((hwa.trans (Kept.all hka)).grown hgrow (fun k hk => Or.inl (by have := ((hsca.acc x.paper).lt k hk).1; omega))).trans hb8
        have hfe := Lib.hid (show (fun q => if q = x.paper then scs (xs.take k) x.paper ++ [x.score] else scs (xs.take k) q) = scs (xs.take (k + 1)) from funext fun q => by
          rw [scs_succ HXT.out q]
          by_cases hq : q = x.paper
          · subst hq; simp
          · have hq' : ¬ x.paper = q := fun e => hq e.symm
            simp [hq, hq'])
        clear hput e07 hgrow hat7 hm8 hb8 hacc7 l1 l2 hsca haccp
        go_wp2_with fail
        go_roundw
        case rel => exact ⟨k + 1, by omega, by go_num, n + 1, _, by omega, by rw [← hfe.out]; exact hpush.out, hk8⟩
        case measure => simp [intOf]; omega
    · have hd : decide ((k : Int) < (len : Int)) = false := by simp; omega
      have hxe : xs.take k = xs := List.take_of_length_le (by have := Hlen.out; omega)
      rw [hxe] at hsc
      obtain ⟨w2, cnt, hrange, hrg, hk2, hsz2⟩ := hsc.map.range Tryz.underlying9 Tryz.underlying159
      have hrow : ∀ p k, (vals p).ownBlock = some k → B ≤ k ∧ k < wo.heap.size := fun p k hk => (hsc.acc p).lt k hk
      have hacc2 : ∀ p, Acc RInt 1 3 (fun _ => False) B w2 (vals p) (scs xs p) := fun p => (hsc.acc p).keepAll RInt.ok hk2
      have hnil := hsc.nil
      have hsep := hsc.sep
      have hlt1 := hsc.map.lt
      have hkw : But mb w1 w2 := hwr.trans (Kept.all hk2)
      obtain ⟨r, hr⟩ : ∃ r, r = wo.heap.size := ⟨_, rfl⟩
      have HR := Lib.hid hr
      have hr1 : w1.heap.size ≤ r := by rw [hr]; exact hwr.size
      have hrow' : ∀ p k, (vals p).ownBlock = some k → B ≤ k ∧ k ≠ r := fun p k hk => by have := hrow p k hk; omega
      rw [← hr] at hrange hrg
      clear hxe hsc hrow hk2 hr hwr hsz2
      go_wp2_with fail
      go_loopw [7] (fun _ wr => ∃ left cnt, RangeS Tryz.prog 9 wr mb r n (fun p => if scs xs p = [] then none else some (vals p)) left cnt ∧ (∀ p, Acc RInt 1 3 (fun _ => False) B wr (vals p) (if left p = true then scs xs p else srtI (scs xs p))) ∧ But mb w1 wr) (fun _ wr => wr.rangeLeft mb r)
      case atStart =>
        refine ⟨_, cnt, hrg, fun p => ?_, hkw⟩
        by_cases hp : scs xs p = []
        · have h1 := hacc2 p
          rw [hp] at h1
          simp only [hp, if_true, Option.isSome_none, Bool.false_eq_true, if_false, srtI_nil.2 rfl]
          exact h1
        · simp only [hp, if_false, Option.isSome_some, if_true]
          exact hacc2 p
      case round =>
        clear hrange hrg hacc2 hkw
        obtain ⟨left, cn, hrg, hacc, hwr⟩ := hrel
        obtain ⟨wq, rfl⟩ : ∃ wq : World, wq = wr := ⟨_, rfl⟩
        have hne := hrg.ne
        rcases hrg.next Tryz.underlying9 0 with ⟨hl0, hrun⟩ | ⟨p, v, w3, cn', hlp, hms, hrun, hrg3, hcl, hb3, hsz3, hen⟩
        · have hfin := Lib.hid (show SC wq w.heap.size mb n vals (fun p => srtI (scs xs p)) from
            ⟨hrg.map.congr (fun p => by simp only [srtI_nil]), fun p => by
              have h1 := hacc p
              simp only [hl0 p, Bool.false_eq_true, if_false] at h1
              exact h1.base (by omega), fun p hp => hnil p (srtI_nil.1 hp), hsep⟩)
          have hall := Lib.hid (show All w wq from hk0.trans2 hwr (fun i hi _ => by omega))
          clear hacc hnil hsep hrow' hrg
          go_wp2_with fail
          go_ret
          exact ⟨mb, n, vals, rfl, hfin.out, hall.out⟩
        · have hfp : scs xs p ≠ [] := fun e => by rw [if_pos e] at hms; cases hms
          have hv : v = vals p := by rw [if_neg hfp] at hms; injection hms with hms; exact hms.symm
          subst hv
          have hacc3 : ∀ q, Acc RInt 1 3 (fun _ => False) B w3 (vals q) (if left q = true then scs xs q else srtI (scs xs q)) := fun q => (hacc q).keep RInt.ok hb3 (fun _ h => h.elim) (fun k hk => (hrow' q k hk).2)
          have haccp := hacc3 p
          simp only [hlp, if_true] at haccp
          have hlen : (scs xs p).length ≤ 1000000 := by have h1 := scs_len xs p; have := Hlen.out; omega
          have hw3 : But mb w1 w3 := hwr.trans2 hb3 (fun i hi hf => by omega)
          have HC := Lib.hid (And.intro hcl hrg.left_eq)
          clear hacc hms hwr hb3 hrg hcl
          go_wp2_with fail
          refine (sortI_any (vals p) (scs xs p) _ haccp hlen).mono ?_
          rintro e w4 ⟨rfl, hacc4, hg4⟩
          have hk34 : Kept (fun k => (vals p).ownBlock ≠ some k) w3 w4 := ⟨hg4.os, hg4.tape, hg4.output, hg4.size, fun k hk hf => hg4.block k hk (fun e => hf e.symm)⟩
          have hrg4 := hrg3.keep hk34 (fun e => by have := (hrow' p mb e).1; omega) (fun e => (hrow' p r e).2 rfl)
          have hw4 : But mb w1 w4 := hw3.trans2 hk34 (fun i hi hf e => by have := (hrow' p i e).1; omega)
          have hacc5 : ∀ q, Acc RInt 1 3 (fun _ => False) B w4 (vals q) (if (left q && !decide (q = p)) = true then scs xs q else srtI (scs xs q)) := fun q => by
            by_cases hq : q = p
            · subst hq
              simpa using hacc4
            · have h1 := (hacc3 q).keep RInt.ok hk34 (fun _ h => h.elim) (fun k hk e => hsep q p k hq hk e)
              simpa [hq] using h1
          clear hk34 hg4 hacc4 hacc3 haccp hrg3 hen hrun
          go_wp2_with fail
          go_roundw
          case rel => exact ⟨_, cn', hrg4, hacc5, hw4⟩
          case measure => rw [hrg4.left_eq, HC.out.2]; exact HC.out.1
end Go.Proofs.YtllkemadaemjeaaGreatDoor
