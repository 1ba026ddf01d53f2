/- A range over an iterator that keeps in a box what is still to come: the statement's law. -/
import Derived.RangeFuncNested
import Derived.RangeFuncBound
import Derived.RangeFuncCalls
import Derived.RangeFuncLeaves
import Derived.Shelf.Abstract
import Derived.Shelf.RegionOpen
import Derived.WalkKit
import Derived.OwnWalkIn
import Derived.TacticsInMore
import Derived.LoopNIn
import Derived.LoopIn
import Derived.Test.YthhmgblcccbdaaaGreatDoorZc
import Derived.Test.YthhmgblcccbdaaaGreatDoorProg
import Derived.Test.YthhmgblcccbdaaaGreatDoorSu
namespace Go.Proofs.YthhmgblcccbdaaaGreatDoor
open Go.RowKit Go.Shelf

/-- The contract of an iterator that keeps its state in a box: whatever the rounds gather, and whatever they leave of the world but for that box. -/
def SeqBox {α : Type} (P : Program) (g : Nat) (lb : Array Value) (encs : α → Array Value) (B : Nat) (t : TypeId) (v : Value) (xs : List α) : Prop :=
  ∀ (l : Nat) (J : List α → World → Prop) (W : World), Boxed W B t v → (∀ pre W1 u, J pre W1 → J pre (W1.setCell ⟨B, 0, none⟩ u)) → (∀ pre W1, J pre W1 → J pre W1.drew) →
    (∀ pre x W1, pre ++ [x] <+: xs → J pre W1 → YieldAt Fence.wide 0 P l (encs x) W1 fun e W' => e = .returned (.bool true) ∧ J (pre ++ [x]) W' ∧ W'.heap[B]? = W1.heap[B]?) →
    J [] W → CallsIn Fence.wide 0 P g (#[.func (.yield l) #[] #[]] ++ lb) W fun e W' => (∃ v, e = .returned v) ∧ J xs W'

theorem wp_rangeFunc_box {α : Type} {P : Program} {g : Operand} {ps : Array Tmp} {assign body : Code} {Q : Exit → Act → World → Prop} {a : Act} {w : World} {gf : Nat} {lb : Array Value}
    (hg : a.eval g = .func (.func gf) #[] lb) (eg : ∀ args w, (callFunc gf args).run P w = .ok (.enter gf args) w) {encs : α → Array Value} {B : Nat} {t : TypeId} {v : Value} {xs : List α}
    (hseq : SeqBox P gf lb encs B t v xs) (hB : Boxed w B t v) (hps : ∀ x, (encs x).size = ps.size)
    (I : List α → World → Prop) (hI : OwnFrom w.heap.size I) (hIB : ∀ pre W u, I pre W → I pre (W.setCell ⟨B, 0, none⟩ u)) (hId : ∀ pre W, I pre W → I pre W.drew) (h0 : I [] w) (a₁ : α → Act)
    (hassign : ∀ (l : Nat) (x : α) (W : World) (K : Act → World → Prop), K (a₁ x) W →
      assign.wpIn (Fence.wide.inRound l) 0 P (Exit.then K (fun _ _ _ => False)) { tmps := (ps.zip (encs x)).foldl (fun t (p, v) => t.setIfInBounds p v) a.tmps, defers := [] } W)
    (hbody : ∀ (l : Nat) (pre : List α) (x : α) (W : World), pre ++ [x] <+: xs → I pre W → body.wpIn (Fence.wide.inRound l) 0 P (fun e _ W' => e = .normal ∧ KeepsFrom w.heap.size W W' ∧ W'.heap[B]? = W.heap[B]? ∧ I (pre ++ [x]) W') (a₁ x) W)
    (hdone : ∀ (D : Nat) (W : World), w.heap.size ≤ D → I xs W → W.heap[D]? = some (.deferred (some [])) → Q .normal { a with defers := { target := .collected D, args := #[] } :: a.defers } W) :
    (Code.rangeFunc g ps assign body).wp P Q a w := by
  refine (wpIn_wide (n := 1)).1 (wpIn_rangeFunc ?_)
  intro fn _
  obtain ⟨r, hr⟩ : ∃ r : LoopState → Loop, r = fun st => { state := st, pending := none, fn, tmps := a.tmps, params := ps, assign, body, defers := w.heap.size } := ⟨_, rfl⟩
  obtain ⟨W1, hW1⟩ : ∃ W1, (w.alloc (.deferred (some []))).alloc (.loop (r .ready)) = W1 := ⟨_, rfl⟩
  have hL : W1.heap[w.heap.size + 1]? = some (.loop (r .ready)) := by rw [← hW1]; exact heap_at _ _ _ (by simp)
  have hK : W1.heap[w.heap.size]? = some (.deferred (some [])) := by rw [← hW1]; exact heap_old _ (heap_at w _ _ rfl)
  have hI1 : I [] W1 := by rw [← hW1]; exact hI.alloc _ (hI.alloc _ h0)
  have hB1 : Boxed W1 B t v := by rw [← hW1]; exact (hB.alloc _).alloc _
  have hlt := hB.lt
  refine ⟨w.heap.size + 1, [{ target := .collected w.heap.size, args := #[] }], W1, { target := .fn (.func gf) lb, args := #[.func (.yield (w.heap.size + 1)) #[] #[]] }, W1, gf,
    #[.func (.yield (w.heap.size + 1)) #[] #[]] ++ lb, W1, ?_, ?_, ?_, ?_, fun _ => Nat.le_refl _, ?_⟩
  · rw [← hW1, hr]; exact run_enterLoop_outer _ _ _ _ _
  · simp only [resolve, hg]
    simp [go_sem]
  · intro f' _; trivial
  · simp [invoke, go_sem, eg]
  · refine (hseq (w.heap.size + 1) (fun pre W => I pre W ∧ W.heap[w.heap.size + 1]? = some (.loop (r .ready)) ∧ W.heap[w.heap.size]? = some (.deferred (some []))) W1 hB1 ?_ ?_ ?_ ⟨hI1, hL, hK⟩).mono ?_
    · rintro pre W u ⟨h1, h2, h3⟩
      exact ⟨hIB pre W u h1, (Below.heap_setCell _ _ _ _ (by dsimp only; omega)).trans h2, (Below.heap_setCell _ _ _ _ (by dsimp only; omega)).trans h3⟩
    · rintro pre W ⟨h1, h2, h3⟩
      exact ⟨hId pre W h1, h2, h3⟩
    · rintro pre x W hpx ⟨hi, hl, hk⟩
      have hlw : w.heap.size + 1 < W.heap.size := (Array.getElem?_eq_some_iff.1 hl).1
      have hy := run_yield (P := P) (args := encs x) hl (by rw [hr]; exact hps x)
      rw [hr] at hy
      refine ⟨fn, _, assign, body, hy, roundIn_of_wpIn trivial (hassign _ x W _ ⟨_, run_beginRound hl (by rw [hr]), ?_⟩)⟩
      have hl2 : (W.putObj (w.heap.size + 1) (.loop { r .ready with state := .busy })).heap[w.heap.size + 1]? = some (.loop { r .ready with state := .busy }) := World.putObj_heap_same hlw
      have hk2 : (W.putObj (w.heap.size + 1) (.loop { r .ready with state := .busy })).heap[w.heap.size]? = some (.deferred (some [])) := (World.putObj_heap_other (by omega)).trans hk
      have hb2 : (W.putObj (w.heap.size + 1) (.loop { r .ready with state := .busy })).heap[B]? = W.heap[B]? := World.putObj_heap_other (by omega)
      refine wpIn_mono (hbody _ pre x _ hpx (hI.putObj _ hi (by omega) hl rfl)) ?_
      rintro e a3 W3 ⟨rfl, hk3, hb3, hi3⟩
      have hl3 := hk3.same _ _ (by omega) hl2 rfl
      have hk4 := hk3.same _ _ (Nat.le_refl _) hk2 rfl
      have hlt3 : w.heap.size + 1 < W3.heap.size := (Array.getElem?_eq_some_iff.1 hl3).1
      refine ⟨_, _, run_endRound (P := P) none hl3, rfl, ⟨hI.putObj _ hi3 (by omega) hl3 rfl, ?_, (World.putObj_heap_other (by omega)).trans hk4⟩, (World.putObj_heap_other (by omega)).trans (hb3.trans hb2)⟩
      rw [World.putObj_heap_same hlt3, hr]
      rfl
    · rintro e W2 ⟨⟨v, rfl⟩, hi, hl, hk⟩
      refine ⟨none, W2.putObj (w.heap.size + 1) (.loop { r .ready with state := .exhausted }), ?_, hdone _ _ (Nat.le_refl _) (hI.putObj _ hi (by omega) hl rfl) ((World.putObj_heap_other (by omega)).trans hk)⟩
      have := run_endLoop (P := P) hl (by rw [hr]; simp)
      rw [hr] at this ⊢
      exact this

/-- The marks that loops over iterators have left among a call's deferred calls. -/
def Marks (B : Nat) (ds : List Deferred) (W : World) : Prop := (ds.map (·.target)).Nodup ∧ ∀ d ∈ ds, ∃ D, d.target = .collected D ∧ B ≤ D ∧ W.heap[D]? = some (.deferred (some []))
theorem Marks.nil (B : Nat) (W : World) : Marks B [] W := ⟨by simp, by simp⟩
theorem Marks.keep {B : Nat} {ds : List Deferred} {W W' : World} (h : Marks B ds W) (hk : ∀ (k : Nat), B ≤ k → W.heap[k]? = some (.deferred (some [])) → W'.heap[k]? = some (.deferred (some []))) : Marks B ds W' :=
  ⟨h.1, fun d hd => by obtain ⟨D, h1, h2, h3⟩ := h.2 d hd; exact ⟨D, h1, h2, hk D h2 h3⟩⟩
/-- A mark more. -/
theorem Marks.cons {B : Nat} {ds : List Deferred} {W W' : World} {D : Nat} (h : Marks B ds W) (hn : W.heap.size ≤ D) (hk : ∀ (k : Nat), B ≤ k → W.heap[k]? = some (.deferred (some [])) → W'.heap[k]? = some (.deferred (some []))) (hB : B ≤ D) (hD : W'.heap[D]? = some (.deferred (some []))) : Marks B ({ target := .collected D, args := #[] } :: ds) W' := by
  refine ⟨?_, ?_⟩
  · rw [List.map_cons, List.nodup_cons]
    refine ⟨fun hm => ?_, h.1⟩
    obtain ⟨d, hd, he⟩ := List.mem_map.1 hm
    obtain ⟨D', h1, -, h3⟩ := h.2 d hd
    rw [h1] at he
    cases he
    have := (Array.getElem?_eq_some_iff.1 h3).1
    omega
  · intro d hd
    rcases List.mem_cons.1 hd with rfl | hd
    · exact ⟨D, rfl, hB, hD⟩
    · exact (h.keep hk).2 d hd
/-- A call that leaves with marks and a value leaves. -/
theorem leaves_marks {P : Program} {fn : Func} {tmps : Array Value} {R : Ending → World → Prop} {B : Nat} {v : Value} {w0 : World} (hB : w0.heap.size ≤ B)
    (hv : ∀ W, (results fn tmps).run P W = .ok v W) (hR : ∀ W, All w0 W → R (.returned v) W) : ∀ (ds : List Deferred) (W : World), Marks B ds W → All w0 W → LeavesInM Fence.wide 0 P fn tmps R ds .returning W
  | [], W, _, hW => by
    refine ⟨v, hv W, hR W hW⟩
  | d :: ds, W, hm, hW => by
    obtain ⟨D, h1, h2, h3⟩ := hm.2 d (List.mem_cons_self ..)
    refine ⟨by simp, .inl ⟨D, _, h1, run_takeDeferred h3, ?_⟩⟩
    refine leaves_marks hB hv hR ds _ ⟨(List.nodup_cons.1 (by simpa using hm.1)).2, fun d' hd' => ?_⟩ ?_
    · obtain ⟨D', k1, k2, k3⟩ := hm.2 d' (List.mem_cons_of_mem _ hd')
      refine ⟨D', k1, k2, (World.putObj_heap_other fun e => ?_).trans k3⟩
      have hn := (List.nodup_cons.1 (show ((d.target :: ds.map (·.target))).Nodup by simpa using hm.1)).1
      exact hn (List.mem_map.2 ⟨d', hd', by rw [k1, h1, e]⟩)
    · have hlt := (Array.getElem?_eq_some_iff.1 h3).1
      exact hW.trans2 (Kept.grown (F := fun k => k ≠ D) (Kept.refl _ W) (grownBy_putObj' W D _) (fun k hk => by cases hk; exact .inr (fun h => h rfl))) (fun i hi _ e => by omega)
end Go.Proofs.YthhmgblcccbdaaaGreatDoor

/- strings.Lines: the iterator over the lines of a string, which keeps in a box what is still to come. -/
namespace Go.Proofs.YthhmgblcccbdaaaGreatDoor
open Go.RowKit Go.Shelf
attribute [local go_sem] Oper.semAt_some

theorem indexByte_lt (c : UInt8) : ∀ l : List UInt8, Lib.indexByte l c < (l.length : Int) ∨ l = []
  | [] => .inr rfl
  | b :: l => by
    refine .inl ?_
    unfold Lib.indexByte
    have h0 := Lib.indexByte_ge l c
    split
    · simp only [List.length_cons]; omega
    · split
      · simp only [List.length_cons]; omega
      · rcases indexByte_lt c l with h | h
        · simp only [List.length_cons]; omega
        · subst h; simp [Lib.indexByte] at *
/-- Where a string's first line ends; that line; what follows it. -/
def cutAt (s : ByteArray) : Int := Lib.indexByte s.data.toList 10
theorem cutAt_lt {s : ByteArray} (h : 0 ≤ cutAt s) : cutAt s < (s.size : Int) := by
  rcases indexByte_lt 10 s.data.toList with h1 | h1
  · exact h1
  · exfalso
    rw [cutAt, h1] at h
    simp [Lib.indexByte] at h
def cutLine (s : ByteArray) : ByteArray := if 0 ≤ cutAt s then s.extract 0 ((cutAt s).toNat + 1) else s
def cutRest (s : ByteArray) : ByteArray := if 0 ≤ cutAt s then s.extract ((cutAt s).toNat + 1) s.size else ⟨#[]⟩
theorem cutRest_lt {s : ByteArray} (h : s.size ≠ 0) : (cutRest s).size < s.size := by
  rw [cutRest]
  split
  · rw [ByteArray.size_extract]; omega
  · show 0 < s.size; omega
def linesG : Nat → ByteArray → List ByteArray
  | 0, _ => []
  | n + 1, s => if s.size = 0 then [] else cutLine s :: linesG n (cutRest s)
theorem linesG_more : ∀ (n : Nat) (s : ByteArray), s.size ≤ n → linesG n s = linesG (n + 1) s
  | 0, s, h => by rw [linesG, linesG, if_pos (by omega)]
  | n + 1, s, h => by
    rw [linesG, linesG]
    by_cases h0 : s.size = 0
    · rw [if_pos h0, if_pos h0]
    · rw [if_neg h0, if_neg h0, linesG_more n _ (by have := cutRest_lt h0; omega)]
theorem linesG_any {s : ByteArray} {n : Nat} (h : s.size ≤ n) : linesG n s = linesG s.size s := by
  obtain ⟨d, rfl⟩ : ∃ d, n = s.size + d := ⟨n - s.size, by omega⟩
  clear h
  induction d with
  | zero => rfl
  | succ d ih => rw [← Nat.add_assoc, ← linesG_more _ _ (by omega)]; exact ih
/-- The lines of a string, each with its end. -/
def linesB (s : ByteArray) : List ByteArray := linesG s.size s
theorem linesB_nil {s : ByteArray} (h : s.size = 0) : linesB s = [] := by rw [linesB, h, linesG]
theorem linesB_cons {s : ByteArray} (h : s.size ≠ 0) : linesB s = cutLine s :: linesB (cutRest s) := by
  obtain ⟨n, hn⟩ : ∃ n, s.size = n + 1 := ⟨s.size - 1, by omega⟩
  rw [linesB, hn, linesG, if_neg h, linesG_any (by have := cutRest_lt h; omega)]
  rfl
theorem cut_size {s : ByteArray} (h : s.size ≠ 0) : (cutLine s).size + (cutRest s).size = s.size ∧ 0 < (cutLine s).size := by
  rw [cutLine, cutRest]
  by_cases hc : 0 ≤ cutAt s
  · have := cutAt_lt hc
    rw [if_pos hc, if_pos hc, ByteArray.size_extract, ByteArray.size_extract]
    omega
  · rw [if_neg hc, if_neg hc]
    exact ⟨rfl, by omega⟩
/-- A string's lines, each with a byte more, are at most twice as long. -/
theorem linesB_sum : ∀ (n : Nat) (s : ByteArray), s.size ≤ n → ((linesB s).map (fun x => x.size + 1)).sum ≤ 2 * s.size
  | n, s, h => by
    by_cases h0 : s.size = 0
    · rw [linesB_nil h0]; simp
    · obtain ⟨h1, h2⟩ := cut_size h0
      cases n with
      | zero => omega
      | succ n =>
        have := linesB_sum n (cutRest s) (by omega)
        rw [linesB_cons h0, List.map_cons, List.sum_cons]
        omega
/-- Lines put behind a string, each behind a bar. -/
def barsF (o : ByteArray) (ls : List ByteArray) : ByteArray := ls.foldl (fun o x => o ++ (⟨#[124]⟩ ++ x)) o
theorem barsF_size : ∀ (ls : List ByteArray) (o : ByteArray), (barsF o ls).size = o.size + (ls.map (fun x => x.size + 1)).sum
  | [], o => by simp [barsF]
  | x :: ls, o => by
    have h := barsF_size ls (o ++ (⟨#[124]⟩ ++ x))
    rw [barsF, List.foldl_cons]
    rw [barsF] at h
    rw [h, ByteArray.size_append, ByteArray.size_append, List.map_cons, List.sum_cons]
    have : (⟨#[124]⟩ : ByteArray).size = 1 := rfl
    omega
theorem barsF_snoc (o : ByteArray) (ls : List ByteArray) (x : ByteArray) : barsF o (ls ++ [x]) = barsF o ls ++ (⟨#[124]⟩ ++ x) := by rw [barsF, List.foldl_append]; rfl
theorem barsF_prefix {s o : ByteArray} {ls : List ByteArray} (h : ls <+: linesB s) : (barsF o ls).size ≤ o.size + 2 * s.size := by
  obtain ⟨r, hr⟩ := h
  have h1 := linesB_sum s.size s (Nat.le_refl _)
  rw [← hr, List.map_append, List.sum_append] at h1
  rw [barsF_size]
  omega
/-- The length of the string in a box. -/
def boxLen (W : World) (B : Nat) : Nat := match W.cell? ⟨B, 0, none⟩ with | some (.string x) => x.size | _ => 0
theorem boxLen_of {W : World} {B : Nat} {t : TypeId} {x : ByteArray} (h : Boxed W B t (.string x)) : boxLen W B = x.size := by rw [boxLen, h.cell]

set_option maxRecDepth 100000 in
set_option maxHeartbeats 2000000 in
theorem lines1_box (s : ByteArray) (hs : s.size ≤ 1000000) (B : Nat) : SeqBox Tryz.prog 183 #[.pointer (some ⟨B, 0, none⟩)] (fun x : ByteArray => #[.string x]) B 9 (.string s) (linesB s) := by
  intro l J W hB hJB hJd hY h0
  refine callsIn_of_wp Tryz.func183 rfl trivial ?_ rfl
  simp only [Tryz.ntmps183, List.size_toArray, List.length_cons, List.length_nil, Nat.reduceAdd, Nat.reduceSub, Array.replicate_succ, Array.replicate_zero, List.push_toArray, List.append_toArray, List.nil_append, List.cons_append]
  gi_wp2
  gi_loopw [3] (fun _ wr => ∃ (pre : List ByteArray) (rest : ByteArray), linesB s = pre ++ linesB rest ∧ rest.size ≤ 1000000 ∧ Boxed wr B 9 (.string rest) ∧ J pre wr) (fun _ wr => boxLen wr B)
  case atStart => exact ⟨[], s, rfl, hs, hB, h0⟩
  case round =>
    obtain ⟨pre, rest, hl, hz, hb, hj⟩ := hrel
    have HB := Lib.hid hb
    have HJ := Lib.hid hj
    have HL := Lib.hid hl
    have q0 := hb.cell
    have q1 := hb.frozen
    clear hj hl hb hB h0
    by_cases h0 : rest.size = 0
    · have hd : decide (0 < rest.size) = false := decide_eq_false (by omega)
      gi_wp2
      go_end0
      exact ⟨⟨_, rfl⟩, by rw [HL.out, linesB_nil h0, List.append_nil]; exact HJ.out⟩
    · have hd : decide (0 < rest.size) = true := decide_eq_true (by omega)
      have HZ := Lib.hid h0
      clear h0
      gi_wp2_with fail
      refine ⟨trivial, rfl, (callsIn_wide.2 (Tryz.strings_IndexByte rest 10 _)).mono ?_⟩
      rintro e w' ⟨rfl, rfl⟩
      rw [show Lib.indexByte rest.data.toList (Int.toNat 10).toUInt8 = cutAt rest from rfl]
      have hge : -1 ≤ cutAt rest := Lib.indexByte_ge _ _
      by_cases hc : 0 ≤ cutAt rest
      · obtain ⟨i, hi⟩ := Int.eq_ofNat_of_zero_le hc
        have hlt := cutAt_lt hc
        have HI := Lib.hid hi
        rw [hi] at hlt ⊢
        have hd2 : decide ((0 : Int) ≤ ((i : Nat) : Int)) = true := decide_eq_true (by omega)
        have c1 : (0 : Int) ≤ (i : Int) + 1 := by omega
        have c2 : (i : Int) + 1 ≤ (rest.size : Int) := by omega
        clear hi hc hge
        have hj2 := hJd _ _ (hJB pre w' (.string (rest.extract (i + 1) rest.size)) HJ.out)
        have hb2 : Boxed (w'.setCell ⟨B, 0, none⟩ (.string (rest.extract (i + 1) rest.size))).drew B 9 (.string (rest.extract (i + 1) rest.size)) := HB.out.set _
        obtain ⟨fn, tmps, assign, body, hy, hR⟩ := hY pre (rest.extract 0 (i + 1)) _ ⟨linesB (cutRest rest), by rw [HL.out, linesB_cons HZ.out, cutLine, HI.out, if_pos (by omega)]; simp only [Int.toNat_natCast, List.append_assoc, List.singleton_append]⟩ hj2
        clear hj2
        gi_wp2_with fail
        gi_region
        gi_wp2_with fail
        refine ⟨rfl, hR.mono ?_⟩
        rintro e W3 ⟨rfl, hj3, hk3⟩
        gi_wp2_with fail
        go_roundw
        case rel => exact ⟨_, _, by rw [HL.out, linesB_cons HZ.out, cutLine, cutRest, HI.out, if_pos (by omega), if_pos (by omega)]; simp only [Int.toNat_natCast, List.append_assoc, List.singleton_append], by rw [ByteArray.size_extract]; omega, hk3.trans hb2, hj3⟩
        case measure => rw [boxLen_of (show Boxed W3 B 9 _ from hk3.trans hb2), boxLen_of HB.out, ByteArray.size_extract]; omega
      · have hd2 : decide ((0 : Int) ≤ cutAt rest) = false := decide_eq_false hc
        have hj2 := hJB pre w' (.string ⟨#[]⟩) HJ.out
        have hb2 : Boxed (w'.setCell ⟨B, 0, none⟩ (.string ⟨#[]⟩)) B 9 (.string ⟨#[]⟩) := HB.out.set _
        obtain ⟨fn, tmps, assign, body, hy, hR⟩ := hY pre rest _ ⟨linesB (cutRest rest), by rw [HL.out, linesB_cons HZ.out, cutLine, if_neg hc]; simp only [List.append_assoc, List.singleton_append]⟩ hj2
        have HC := Lib.hid hc
        clear hj2 hc
        gi_wp2_with fail
        refine ⟨rfl, hR.mono ?_⟩
        rintro e W3 ⟨rfl, hj3, hk3⟩
        gi_wp2_with fail
        go_roundw
        case rel => exact ⟨_, _, by rw [HL.out, linesB_cons HZ.out, cutLine, cutRest, if_neg (show ¬ 0 ≤ cutAt rest by have := HC.out; omega), if_neg (show ¬ 0 ≤ cutAt rest by have := HC.out; omega)]; simp only [List.append_assoc, List.singleton_append], by show 0 ≤ 1000000; omega, hk3.trans hb2, hj3⟩
        case measure => rw [boxLen_of (show Boxed W3 B 9 _ from hk3.trans hb2), boxLen_of HB.out]; have := HZ.out; show 0 < rest.size; omega
end Go.Proofs.YthhmgblcccbdaaaGreatDoor
