/- OpenAt: a range over slices.Backward. -/
import Derived.Test.YtllkemadaemjeaaGreatDoorBi
namespace Go.Proofs.YtllkemadaemjeaaGreatDoor
open Go.RowKit Go.Shelf
attribute [local go_sem] Oper.semAt_some

theorem TurnsBelow.mono {n₀ n₁ : Nat} {W : World} {a : Option Addr} {xs : List Turn3} (h : n₀ ≤ n₁) (k : TurnsBelow n₀ W a xs) : TurnsBelow n₁ W a xs := fun hl => by
  obtain ⟨b, off, ha, hb, hc⟩ := k hl
  exact ⟨b, off, ha, Nat.lt_of_lt_of_le hb h, hc⟩
/-- A turn in a box. -/
def TurnBox (W : World) (B : Nat) (x : Turn3) : Prop := W.heap[B]? = some (.cells #[.int .i64 x.tm, .string x.paper, .bool x.op] 121 (0, 0))
theorem TurnBox.kept {W W' : World} {row : Option Nat} {B : Nat} {x : Turn3} (h : TurnBox W B x) (hg : W.grownBy W' row) (hr : ∀ r, row = some r → ∃ o : Obj, W.heap[r]? = some o ∧ o.isCells = false) : TurnBox W' B x :=
  (hg.block B (Array.getElem?_eq_some_iff.1 h).1 (fun e => by obtain ⟨o, ho, hc⟩ := hr B e.symm; rw [show W.heap[B]? = _ from h] at ho; cases ho; cases hc)).trans h

set_option maxRecDepth 100000 in
set_option maxHeartbeats 4000000 in
theorem openAt_in (F : Fence) (n : Nat) (h3 : F.fn 167) (h4 : F.fn 205) (h5 : F.fn 243) (hro : F.round = none) (hn : 6 ≤ n)
    (v0 v1 v2 : Value) (a3 : Option Addr) (l3 c3 : Nat) (xs : List Turn3) (p : ByteArray) (nn : Int) (w : World) (hs : Sl RTurn 3 (fun _ => True) w a3 l3 xs) (hl : l3 ≤ 1000000) (_o0 : v0.oneCell' = true) (_o1 : v1.oneCell' = true) (_o2 : v2.oneCell' = true) :
    CallsIn F n Tryz.prog 167 #[.agg #[v0, v1, v2, .slice a3 l3 c3], .string p, .int .i64 nn] w fun e W' => e = .returned (.bool (openAt xs p nn)) ∧ Below w.heap.size w W' := by
  have hlen := hs.len
  subst hlen
  have hT := hs.turnsBelow (Nat.le_refl _)
  clear hs
  have h1 : 1 ≤ n := by omega
  refine callsIn_of_wp_marks Tryz.func167 rfl h3 ?_ hro
  simp only [Tryz.ntmps167, List.size_toArray, List.length_cons, List.length_nil, Nat.reduceAdd, Nat.reduceSub, Array.replicate_succ, Array.replicate_zero, List.push_toArray, List.append_toArray, List.nil_append, List.cons_append]
  gi_wp2_with (gi_at_call 205; refine (backward_in F (n - 1) h4 hro _ _ _ _).mono ?_; rintro e w' ⟨rfl, rfl⟩)
  obtain ⟨W0, hW0⟩ : ∃ W0, (((((w.alloc (.cells #[v0, v1, v2, .slice a3 xs.length c3] 50)).alloc (.cells #[.string p] 9)).alloc (.cells #[.int .i64 nn] 3)).alloc (.cells #[.bool false] 4))).alloc (.cells #[.slice a3 xs.length c3] 48) = W0 := ⟨_, rfl⟩
  have bS : Boxed W0 (w.heap.size + 1) 9 (.string p) := by
    rw [← hW0]
    have := (((Boxed.new (w.alloc (.cells #[v0, v1, v2, .slice a3 xs.length c3] 50)) 9 (.string p)).alloc (.cells #[.int .i64 nn] 3)).alloc (.cells #[.bool false] 4)).alloc (.cells #[.slice a3 xs.length c3] 48)
    simpa only [World.size_alloc] using this
  have bN : Boxed W0 (w.heap.size + 1 + 1) 3 (.int .i64 nn) := by
    rw [← hW0]
    have := ((Boxed.new ((w.alloc (.cells #[v0, v1, v2, .slice a3 xs.length c3] 50)).alloc (.cells #[.string p] 9)) 3 (.int .i64 nn)).alloc (.cells #[.bool false] 4)).alloc (.cells #[.slice a3 xs.length c3] 48)
    simpa only [World.size_alloc] using this
  have bR : Boxed W0 (w.heap.size + 1 + 1 + 1) 4 (.bool false) := by
    rw [← hW0]
    have := (Boxed.new (((w.alloc (.cells #[v0, v1, v2, .slice a3 xs.length c3] 50)).alloc (.cells #[.string p] 9)).alloc (.cells #[.int .i64 nn] 3)) 4 (.bool false)).alloc (.cells #[.slice a3 xs.length c3] 48)
    simpa only [World.size_alloc] using this
  have bA : Boxed W0 (w.heap.size + 1 + 1 + 1 + 1) 48 (.slice a3 xs.length c3) := by
    rw [← hW0]
    have := Boxed.new (((((w.alloc (.cells #[v0, v1, v2, .slice a3 xs.length c3] 50)).alloc (.cells #[.string p] 9)).alloc (.cells #[.int .i64 nn] 3)).alloc (.cells #[.bool false] 4))) 48 (.slice a3 xs.length c3)
    simpa only [World.size_alloc] using this
  have hB0 : Below w.heap.size w W0 := by
    rw [← hW0]
    exact (((((Below.refl _ w).alloc (Nat.le_refl _) _).alloc (by simp) _).alloc (by simp; omega) _).alloc (by simp; omega) _).alloc (by simp; omega) _
  have hsz : W0.heap.size = w.heap.size + 5 := by rw [← hW0]; simp
  rw [hW0]
  clear hW0
  have hT0 := (hT.below hB0).mono (show w.heap.size ≤ W0.heap.size by omega)
  refine wpIn_rangeFunc_ownH hro h1 (gf := 243) (lb := #[.pointer (some ⟨w.heap.size + 1 + 1 + 1 + 1, 0, none⟩)]) rfl h5 (enters_of Tryz.func243 (by kernel_rfl) rfl)
    (back_stops F (n - 1) h5 hro (by omega) (w.heap.size + 1 + 1 + 1 + 1) W0.heap.size a3 c3 xs hl W0 (by omega) (Nat.le_refl _) bA.cell hT0) belowK_t (belowK_b (Nat.le_refl _)) (Below.refl _ _) (fun _ => rfl)
    (fun pre W => ((Boxed W (w.heap.size + 1) 9 (.string p) ∧ Boxed W (w.heap.size + 1 + 1) 3 (.int .i64 nn)) ∧ Boxed W (w.heap.size + 1 + 1 + 1) 4 (.bool false)) ∧ (∀ y ∈ pre, ¬ hits p nn y.2) ∧ (W0.heap.size ≤ W.heap.size ∧ Below w.heap.size w W))
    (fun c pre W => (∃ pre' x, c = .ret ∧ pre = pre' ++ [x] ∧ (∀ y ∈ pre', ¬ hits p nn y.2) ∧ hits p nn x.2 ∧ Boxed W (w.heap.size + 1 + 1 + 1) 4 (.bool x.2.op)) ∧ Below w.heap.size w W)
    (OwnFrom.and (OwnFrom.and (OwnFrom.and (Own.from (boxed_own _ _ _) _) (Own.from (boxed_own _ _ _) _)) (Own.from (boxed_own _ _ _) _)) (OwnFrom.and (fun _ _ _ _ h _ _ => h) (OwnFrom.and (fun _ _ _ _ hs hg _ => Nat.le_trans hs hg.size) (ownFrom_below (Nat.le_refl _) (by omega)))))
    (fun c => OwnFrom.and (fun s A B row hs hg hr => by
      obtain ⟨pre', x, e1, e2, e3, e4, e5⟩ := hs
      exact ⟨pre', x, e1, e2, e3, e4, boxed_own (w.heap.size + 1 + 1 + 1) 4 (fun (_ : Unit) => Value.bool x.2.op) () A B row e5 hg (fun r e => (hr r e).2)⟩) (ownFrom_below (Nat.le_refl _) (by omega)))
    ⟨⟨⟨bS, bN⟩, bR⟩, by simp, Nat.le_refl _, hB0⟩
    (fun x a' W => ∃ Bx, w.heap.size + 1 + 1 + 1 < Bx ∧ TurnBox W Bx x.2 ∧ a' = { tmps := #[.agg #[v0, v1, v2, .slice a3 xs.length c3], .string p, .int .i64 nn, .pointer (some ⟨w.heap.size, 0, none⟩), .pointer (some ⟨w.heap.size + 1, 0, none⟩), .pointer (some ⟨w.heap.size + 1 + 1, 0, none⟩), .pointer (some ⟨w.heap.size + 1 + 1 + 1, 0, none⟩), undef, .pointer (some ⟨Bx, 0, none⟩), .pointer (some ⟨w.heap.size, 3, none⟩), .slice a3 xs.length c3, .func (.func 243) #[] #[.pointer (some ⟨w.heap.size + 1 + 1 + 1 + 1, 0, none⟩)], .int .i64 (x.1 : Int), .agg #[.int .i64 x.2.tm, .string x.2.paper, .bool x.2.op], undef, undef, undef, undef, undef, undef, undef, undef, undef, undef, undef, undef], defers := [] })
    (fun x a' _ X Y row hs hg hr => by obtain ⟨Bx, h1, h2, h3⟩ := hs; exact ⟨Bx, h1, h2.kept hg (fun r e => (hr r e).2), h3⟩)
    ?assign ?body ?done ?stop
  case assign =>
    rintro l pre x W K ⟨⟨⟨bS1, bN1⟩, bR1⟩, hno, hz1, hB1⟩ hK
    dsimp only [encB]
    gi_wp2
    exact hK _ _ ((KeepsOthers.alloc _ _).from _) ((Below.refl _ W).alloc hz1 _) ⟨⟨⟨bS1.alloc _, bN1.alloc _⟩, bR1.alloc _⟩, hno, by simp; omega, hB1.alloc hB1.size _⟩ ⟨W.heap.size, bR1.lt, World.alloc_heap_new W _, rfl⟩
  case body =>
    rintro l pre x a' W hl2 hr ⟨⟨⟨bS1, bN1⟩, bR1⟩, hno, hz1, hB1⟩ ⟨Bx, hBx, bX, rfl⟩ hlt
    obtain ⟨i, y⟩ := x
    have cS := bS1.cell
    have cN := bN1.cell
    have cR := bR1.cell
    have fR := bR1.frozen
    have q0 := cell_at (i := 0) bX rfl
    have q1 := cell_at (i := 1) bX rfl
    have q2 := cell_at (i := 2) bX rfl
    dsimp only at q0 q1 q2 bX
    have HNO := Lib.hid hno
    clear hno hr hlt
    by_cases g1 : y.paper = p
    · have d1 : (y.paper.toList == p.toList) = true := by simp [g1]
      by_cases g2 : y.tm ≤ nn
      · have d2 : decide (y.tm ≤ nn) = true := by simpa using g2
        have HG := Lib.hid (show hits p nn y from ⟨g1, g2⟩)
        clear g1 g2
        gi_wp2
        exact ⟨(KeepsOthers.setCell _ _ _).from _, ⟨pre, (i, y), rfl, rfl, HNO.out, HG.out, bR1.set _⟩, hB1.setCell (p := ⟨w.heap.size + 1 + 1 + 1, 0, none⟩) (by dsimp only; omega) _⟩
      · have d2 : decide (y.tm ≤ nn) = false := by simpa using g2
        have HG := Lib.hid (show ¬ hits p nn y from fun h => g2 h.2)
        clear g1 g2
        gi_wp2
        exact ⟨KeepsFrom.refl _ _, Below.refl _ _, ⟨⟨bS1, bN1⟩, bR1⟩, fun z hz => (List.mem_append.1 hz).elim (HNO.out z) (fun e => by simp at e; subst e; exact HG.out), hz1, hB1⟩
    · have d1 : (y.paper.toList == p.toList) = false := by
        rw [beq_eq_false_iff_ne]
        intro e
        exact g1 (by rw [tl_data, tl_data] at e; exact Go.WideShapes.bytes_inj e)
      have HG := Lib.hid (show ¬ hits p nn y from fun h => g1 h.1)
      clear g1
      gi_wp2
      exact ⟨KeepsFrom.refl _ _, Below.refl _ _, ⟨⟨bS1, bN1⟩, bR1⟩, fun z hz => (List.mem_append.1 hz).elim (HNO.out z) (fun e => by simp at e; subst e; exact HG.out), hz1, hB1⟩
  case done =>
    rintro D ys W hD rfl ⟨⟨⟨bS1, bN1⟩, bR1⟩, hno, hz1, hB1⟩ hK
    have hop := Lib.hid (open_none hno)
    have cR := bR1.cell
    have fR := bR1.frozen
    clear hno
    gi_wp2
    have hK' := (KeepsOthers.setCell W ⟨w.heap.size + 1 + 1 + 1, 0, none⟩ (.bool false)).same D _ hK rfl
    refine ⟨by simp, .inl ⟨_, _, rfl, run_takeDeferred hK', ?_⟩⟩
    have hc5 := cell_kept (bR1.set (.bool false)).cell (grownBy_putObj' _ D (.deferred none)) (fun r e => by cases e; exact ⟨_, hK', rfl⟩)
    refine ⟨.bool false, ?_, by rw [hop.out], (hB1.setCell (p := ⟨w.heap.size + 1 + 1 + 1, 0, none⟩) (by dsimp only; omega) _).trans (belowK_b (w := w) (Nat.le_refl _) _ D _ _ (by omega) hK' rfl rfl)⟩
    simp [results, Tryz.f167, go_sem, hc5]
  case stop =>
    rintro D c pre W hD ⟨k, hk, rfl⟩ ⟨⟨pre', x, rfl, e2, e3, e4, e5⟩, hB1⟩ hK
    rw [backTo_succ] at e2
    obtain ⟨e6, e7⟩ := List.append_inj' e2 rfl
    have e8 : backAt xs k = x := by simpa using e7
    subst e6 e8
    have hop := Lib.hid (open_hit hk e3 e4)
    clear e2 e3 e4 e7
    gi_wp2
    refine ⟨by simp, .inl ⟨_, _, rfl, run_takeDeferred hK, ?_⟩⟩
    have hc5 := cell_kept e5.cell (grownBy_putObj' _ D (.deferred none)) (fun r e => by cases e; exact ⟨_, hK, rfl⟩)
    refine ⟨.bool (backAt xs k).2.op, ?_, by rw [hop.out], hB1.trans (belowK_b (w := w) (Nat.le_refl _) _ D _ _ (by omega) hK rfl rfl)⟩
    simp [results, Tryz.f167, go_sem, hc5]
end Go.Proofs.YtllkemadaemjeaaGreatDoor
