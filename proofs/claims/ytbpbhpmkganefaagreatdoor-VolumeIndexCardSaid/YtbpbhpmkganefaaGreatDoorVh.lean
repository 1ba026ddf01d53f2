/- Volume makes volumes, nearly always right ones. -/
import Derived.Test.YtbpbhpmkganefaaGreatDoorVg
import Derived.Deep.DrawnRows
namespace Go.Proofs.YtbpbhpmkganefaaGreatDoor
open Go.RowKit
attribute [local go_sem ↓] Go.wp_at_zero Go.wp_at_succ

theorem undCh : Tryz.prog.underlying 28 = some (.slice 65) := Tryz.underlying28
theorem undS : Tryz.prog.underlying 32 = some (.slice 9) := Tryz.underlying32
/-- When all is made. -/
def PostV (σ : St) (vb rb B m n c : Nat) (first : Int) (right : Bool) (w0 w : World) : Prop :=
  ∃ (ac : Option Addr) (cc : Nat) (chs : List Chap) (tag : Nat → Nat) (n' : Nat), VBlk vb first right (.slice ac chs.length cc) w ∧ VChs m B tag (.slice ac chs.length cc) chs w ∧ chs.length ≤ 20 ∧
    w.heap[rb]? = some (.cells #[.int .i64 0, .bool false, .slice none 0 0] 30 (0, 0)) ∧ Str σ w n' ∧ n ≤ n' ∧ n' ≤ n + c ∧ But σ.b w0 w
theorem PostV.make {σ : St} {vb rb B m n n' nn g cap i : Nat} {first : Int} {right : Bool} {w0 w5 w W w7 : World} {cv : Value} {chs : List Chap} {tag : Nat → Nat} {t t' s : ByteArray} {ps : List ByteArray} {p7 : Option Addr} {c7 : Nat}
    (hσ : σ.b < vb) (hvb : vb < B) (hrB : rb < B) (hblk : VBlk vb first right (.slice (some ⟨g, 0, none⟩) nn cap) w) (hk : VKept σ vb B w5 w) (hs : Str σ w n')
    (hH : AccH (RChapO m) 2 65 (Tag B tag) B w (.slice (some ⟨g, 0, none⟩) nn cap) chs i [.string t, cv]) (hps : Acc RStr 1 9 (fun _ => False) 0 w cv ps)
    (hown : ∀ k, cv.ownBlock = some k → Tag B tag i k ∧ (Value.slice (some ⟨g, 0, none⟩) nn cap).ownBlock ≠ some k)
    (hr : w.heap[rb]? = some (.cells #[.int .i64 0, .bool false, .slice none 0 0] 30 (0, 0))) (hb : But σ.b w0 w) (hW : All w W)
    (hacc7 : Acc RStr 1 9 (fun _ => False) 0 w7 (.slice p7 (ps.length + 1) c7) (ps ++ [s])) (hgrow : W.grownBy w7 cv.ownBlock)
    (hat : (Value.slice p7 (ps.length + 1) c7).ownBlock = cv.ownBlock ∨ (Value.slice p7 (ps.length + 1) c7).ownBlock = some W.heap.size) (ht : t'.size ≤ 1000000) (hpl : ps.length ≤ m) (hn1 : n ≤ n') (hn2 : n' ≤ n + 100) (hcl : nn ≤ 20) (hnn : nn = chs.length := by rfl) (hw0 : w0.heap.size ≤ B := by omega) :
    PostV σ vb rb B (m + 1) n 100 first right w0 ((w7.setCell ⟨g, i * 2, none⟩ (.string t')).setCell ⟨g, i * 2 + 1, none⟩ (.slice p7 (ps.length + 1) c7)) := by
  obtain ⟨g1, g2, g3, g4, g5⟩ := MV.grown hσ hvb (hW.heap hblk trivial) (hk.trans (Kept.all hW)) (hs.keep hW) (hH.keepAll (RChapO.ok m) hW) (hps.keepAll RStr.ok hW) hown hgrow hat
  have hBg := (hH.lt g rfl).1
  have hr7 := hgrow_heapF hgrow (hW.heap hr trivial) (fun e => by have := (hown _ e.symm).1.2; omega)
  have hb7 : But σ.b w0 w7 := (hb.trans (Kept.all hW)).grown hgrow (fun k hk => Or.inl (by have := (hown k hk).1.2; omega))
  have hacc7' : Acc RStr 1 9 (fun _ => False) 0 w7 (.slice p7 (ps ++ [s]).length c7) (ps ++ [s]) := by rw [List.length_append, List.length_singleton]; exact hacc7
  obtain ⟨j1, j2, j3, j4, j5⟩ := MV.title hσ hvb g3 g4 g5 g1 (p7 := p7) (c7 := c7) (qs := ps ++ [s]) (by rw [List.length_append, List.length_singleton]; exact g2) hacc7' t'
  rw [List.length_append, List.length_singleton] at j5
  obtain ⟨l1, l2, l3, l4⟩ := MV.paper hσ hvb j1 j2 j3 j4 g2 ht hpl j5
  have hrz := Kept.heap (Kept.setCell (F := fun k => k ≠ g) _ ⟨g, i * 2 + 1, none⟩ (.slice p7 (ps.length + 1) c7) (by simp)) (Kept.heap (Kept.setCell (F := fun k => k ≠ g) w7 ⟨g, i * 2, none⟩ (.string t') (by simp)) hr7 (by omega)) (by omega)
  have hbz := (hb7.then_setNew ⟨g, i * 2, none⟩ (.string t') (by dsimp only; omega)).then_setNew ⟨g, i * 2 + 1, none⟩ (.slice p7 (ps.length + 1) c7) (by dsimp only; omega)
  have hls : (chs.set i (⟨t', ps ++ [s]⟩ : Chap)).length = chs.length := List.length_set ..
  rw [hnn, ← hls] at l1 l2
  exact ⟨_, _, _, _, n', l1, l2, by omega, hrz, l4, hn1, hn2, hbz⟩
/-- Before the chapters are made. -/
def PreV (σ : St) (vb rb n c : Nat) (right : Bool) (w0 w : World) : Prop :=
  ∃ (first : Int) (n' : Nat), VBlk vb first right (.slice none 0 0) w ∧ w.heap[rb]? = some (.cells #[.int .i64 0, .bool false, .slice none 0 0] 30 (0, 0)) ∧ Str σ w n' ∧ n ≤ n' ∧ n' ≤ n + c ∧ But σ.b w0 w
theorem PreV.mono {σ : St} {vb rb n c c' : Nat} {right : Bool} {w0 w : World} (h : PreV σ vb rb n c right w0 w) (hc : c ≤ c') : PreV σ vb rb n c' right w0 w := by
  obtain ⟨first, n', h1, h2, h3, h4, h5, h6⟩ := h
  exact ⟨first, n', h1, h2, h3, h4, by omega, h6⟩

set_option maxRecDepth 100000 in
set_option maxHeartbeats 12800000 in
theorem volume_any (σ : St) (n : Nat) (af : Option Addr) (lf cf : Nat) (xs : List Fin4) (w : World) (hs : Str σ w n) (hn : n ≤ 4611686018427100000) (hf : Sl RFin 4 (fun k => k ≠ σ.b) w af lf xs) (hlf : lf ≤ 10) :
    Calls Tryz.prog 5 #[.pointer (some ⟨σ.b, 0, none⟩), .slice af lf cf] w (StPost σ n 1000 w (IsVol σ 100)) := by
  have hlt := hs.lt
  go_enter Tryz.func5, Tryz.ntmps5
  go_wp2_with fail
  have hs0 := hs.keep (Kept.alloc (fun _ => True) w (.cells #[.int .i64 0, .bool false, .slice none 0 0] 30))
  have hb0 : But σ.b w (w.alloc (.cells #[.int .i64 0, .bool false, .slice none 0 0] 30)) := Kept.alloc _ _ _
  have hrb := heap_at w (.cells #[.int .i64 0, .bool false, .slice none 0 0] 30) _ rfl
  have hz0 : w.heap.size + 1 = (w.alloc (.cells #[.int .i64 0, .bool false, .slice none 0 0] 30)).heap.size := by simp
  refine (pick_any σ n _ _ _ [1, 1, 2, 7, 10, 4990] _ (hs0.keep (Kept.alloc _ _ _)) (by omega) (Sl.lit_ints _ (heap_at _ _ _ (by first | rfl | simp)) rfl (by omega)) (by simp) (by simp)).mono ?_
  rintro e w1 ⟨v, n1, rfl, ⟨fst, rfl, -⟩, hn1, hn2, hs1, hb1⟩
  have hb01 : But σ.b w w1 := (hb0.then_alloc _).trans hb1
  have hrb1 := hb1.heap (heap_old _ hrb) (by omega)
  clear hs hs0 hb0 hrb hb1 hz0
  go_wp2_with fail
  refine (flip_any σ n1 _ _ hs1 (by omega) (by omega) (by omega)).mono ?_
  rintro e w2 ⟨v, n2, rfl, ⟨right, rfl⟩, hn3, hn4, hs2, hb2⟩
  have hb02 : But σ.b w w2 := hb01.trans hb2
  have hrb2 := hb2.heap hrb1 (by omega)
  clear hs1 hb01 hrb1 hb2
  go_wp2_with fail
  have hlt2 := hs2.lt
  have hsz2 := hb02.size
  have hrl2 : w.heap.size < w2.heap.size := by rcases Array.getElem?_eq_some_iff.1 hrb2 with ⟨h, _⟩; exact h
  have hs3 := hs2.keep (Kept.alloc (fun _ => True) w2 (.cells #[.int .i64 fst, .bool right, .slice none 0 0] 30))
  have hvb3 := heap_at w2 (.cells #[.int .i64 fst, .bool right, .slice none 0 0] 30) _ rfl
  have hrb3 := heap_old (.cells #[.int .i64 fst, .bool right, .slice none 0 0] 30) hrb2
  have hb03 : But σ.b w (w2.alloc (.cells #[.int .i64 fst, .bool right, .slice none 0 0] 30)) := hb02.then_alloc _
  refine (flip_any σ n2 _ _ hs3 (by omega) (by omega) (by omega)).mono ?_
  rintro e w3 ⟨v, n3, rfl, ⟨r3, rfl⟩, hn5, hn6, hs4, hb3⟩
  have hvb4 := hb3.heap hvb3 (by omega)
  have hrb4 := hb3.heap hrb3 (by omega)
  have hb04 : But σ.b w w3 := hb03.trans hb3
  have HP3 := Lib.hid (show PreV σ w2.heap.size w.heap.size n 4 right w w3 from ⟨fst, n3, hvb4, hrb4, hs4, by omega, by omega, hb04⟩)
  clear hs2 hs3 hb02 hrb2 hvb3 hrb3 hb03 hb3
  go_upto_if 17 with fail
  go_cut [] (fun wx => PreV σ w2.heap.size w.heap.size n 6 right w wx)
  case first =>
    cases r3
    · go_wp2_with fail
      go_meet
      exact HP3.out.mono (by omega)
    · go_wp2_with fail
      refine (odd10_any σ n3 1 5000 _ hs4 (by omega) (by omega) (by omega) (by omega)).mono ?_
      rintro e w4 ⟨v, n4, rfl, ⟨q, rfl, -, -⟩, hn7, hn8, hs5, hb4⟩
      have hvb5 := hb4.heap hvb4 (by omega)
      have hrb5 := hb4.heap hrb4 (by omega)
      have c0 := cell_at (i := 0) hvb5 rfl
      have f0 := frozen_at (i := 0) hvb5
      have hend := Lib.hid (show PreV σ w2.heap.size w.heap.size n 6 right w (w4.setCell ⟨w2.heap.size, 0, none⟩ (.int .i64 q)) from
        ⟨q, n4, heap_setCell_at _ _ _ _ _ _ _ hvb5, Kept.heap (Kept.setCell (F := fun k => k ≠ w2.heap.size) w4 _ _ (by simp)) hrb5 (by omega), hs5.set _ _ (by dsimp only; omega), by omega, by omega, (hb04.trans hb4).then_setNew _ _ hsz2⟩)
      clear hs5 hs4 hvb5 hrb5 hvb4 hrb4 hb04 hb4 HP3
      go_wp2_with fail
      go_meet
      exact hend.out
  case rest =>
    clear HP3 hs4 hvb4 hrb4 hb04
    obtain ⟨first, n4, hvb, hrb, hs4, hn7, hn8, hb4⟩ := hcut
    obtain ⟨wx, rfl⟩ : ∃ wx : World, wx = wc := ⟨_, rfl⟩
    go_wp2_with fail
    refine (order_any σ n4 lf _ hs4 (by omega) (by omega)).mono ?_
    rintro e w5 ⟨v, n5, rfl, ⟨zs, hzs, hzl, hzm⟩, hn9, hn10, hs5, hb5⟩
    have hvb5 := hb5.heap hvb (by omega)
    have hrb5 := hb5.heap hrb (by omega)
    have hb05 : But σ.b w w5 := hb4.trans hb5
    have hvx : w2.heap.size < wx.heap.size := by rcases Array.getElem?_eq_some_iff.1 hvb with ⟨h, _⟩; exact h
    have hx5 := hb5.size
    obtain ⟨az, cz, hvz, hzsl⟩ := (hzs.intAny (fun _ => False)).sl RInt.ok (by decide) (G := fun k => k ≠ σ.b ∧ k ≠ w2.heap.size ∧ k < w5.heap.size) (fun _ h => h.elim) (fun k hk => by have h1 := hzs.lt k hk; omega)
    subst hvz
    have hf5 : Sl RFin 4 (fun k => k ≠ σ.b ∧ k ≠ w2.heap.size ∧ k < w5.heap.size) w5 af lf xs := ((hf.live RFin.ok (by decide)).keep RFin.ok (hb05.mono fun k h => h.1)).mono RFin.ok (fun k h => ⟨h.1, by have := h.2; omega, by have := h.2; omega⟩)
    have hσv : σ.b < w2.heap.size := hlt2
    have hvB : w2.heap.size < w5.heap.size := by omega
    have hrB : w.heap.size < w2.heap.size := hrl2
    have Hzl := Lib.hid hzl
    rw [hzl] at hzsl ⊢
    have hM0 : MakingV σ w2.heap.size w5.heap.size 0 0 n5 0 0 first right w5 w5 := ⟨_, [], fun _ => 0, n5, hvb5, AccI.nil _ _ _ _ _ _, by simp, by simp, hs5, by omega, by omega, Kept.refl _ _⟩
    clear hzs hvb hrb hs4 hb4 hb5 hf hzl hvb5 hs5
    generalize hvbE : w2.heap.size = vb at *
    generalize hBE : w5.heap.size = B at *
    have hBE' : B ≤ w5.heap.size := by omega
    have hBE2 : w5.heap.size ≤ B := by omega
    clear hvbE hBE
    go_wp2_with fail
    go_loopw [26] (fun i wr => ∃ k : Nat, k ≤ lf ∧ i = .int .i64 k ∧ MakingV σ vb B k k n5 (3 * k) 0 first right w5 wr) (fun i _ => lf - (intOf i).toNat)
    case atStart => exact ⟨0, Nat.zero_le _, rfl, hM0⟩
    case round =>
      clear hM0
      obtain ⟨k, hk, rfl, chv, chs, tag, no, hblk, hch, -, hchl, hso, hno1, hno2, hko⟩ := hrel
      obtain ⟨wo, rfl⟩ : ∃ wo : World, wo = wr := ⟨_, rfl⟩
      have c2 := cell_at (i := 2) hblk rfl
      have hl2 : vb < wo.heap.size := World.block_lt_of_cell? wo _ c2
      have hzo := hko.size
      obtain ⟨ac, cc, rfl, hcc⟩ := hch.form
      by_cases hlt4 : k < lf
      · obtain ⟨bz, oz, z, haz, hFz, cz0, hz, -, -⟩ := (hzsl.keep RInt.ok hko).atInt hlt4
        subst haz
        have hzb := hzm z (List.mem_of_getElem? hz)
        obtain ⟨iz, rfl⟩ := Int.eq_ofNat_of_zero_le hzb.1
        have hiz : iz < lf := by omega
        clear hz hzb
        by_cases h0 : chs.length = 0
        · have d0 : ((chs.length : Int) == 0) = true := by simp [h0]
          have hso' := hso.lt
          clear h0
          go_upto_if 37 with fail
          go_cut [] (fun wx => MakingV σ vb B k (k + 1) n5 (3 * k + 2) 1 first right w5 wx)
          case first =>
            go_wp2_with fail
            go_region_law (first
              | (refine step_append1I (RChapO.ok k) _ (by rfl) _ _ 28 (by rfl) B 65 (.agg #[.string ⟨#[]⟩, .slice none 0 0]) 2 40 undCh (by kernel_rfl) rfl (by decide) (Tag B tag) (.slice ac chs.length cc) chs (by rfl) (hch7.keepAll (RChapO.ok k) (by repeat (first | exact Kept.refl _ _ | refine Kept.then_drew ?_ | refine Kept.then_alloc ?_ _))) ⟨w7.heap.size, 0, none⟩ 1 [.string t, .slice none 0 0] (by rfl) rfl (World.news_of_block (cs := #[.string t, .slice none 0 0]) (t := 65) (fr := (0, 0)) (heap_alloc_new w7 _)) (by simp [Value.oneCell']) ⟨t, []⟩ ⟨_, rfl, ⟨htz, by simp⟩, Acc.nil _ _ _ _ _ _, fun k hk => by cases hk⟩ (by omega) (by decide) (by simp; omega) ?_; intro p8 c8 w8 hacc8 hgrow hat8; have b8 := hgrow_heapF hgrow (Kept.heap (w := w7) (F := fun _ => True) (by repeat (first | exact Kept.refl _ _ | refine Kept.then_drew ?_ | refine Kept.then_alloc ?_ _)) hblk7 trivial) (Ne.symm hne7); have c18 := cell_at (i := 2) b8 rfl; have f18 := frozen_at (i := 2) b8)
              | (go_simp; go_at_call 18; refine (some10_any σ no _ _ _ [⟨#[80, 108, 97, 110, 116, 115]⟩, ⟨#[83, 116, 111, 110, 101, 115]⟩] _ (hso.keep (by repeat (first | exact Kept.refl _ _ | refine Kept.then_drew ?_ | refine Kept.then_alloc ?_ _))) (by omega) (Sl.lit_strs _ (by first | exact heap_at _ _ _ (by first | rfl | simp) | exact heap_old _ (heap_at _ _ _ (by first | rfl | simp))) rfl (by omega)) (by simp) (by simp)).mono ?_; rintro e w7 ⟨v, n7, rfl, ⟨t, rfl, -, htz⟩, hn15, hn16, hs7, hb7⟩; obtain ⟨hblk7, hch7, hk7⟩ := MV.step hσv hvB hblk hch hko (by repeat (first | exact Kept.refl _ _ | refine Kept.then_drew ?_ | refine Kept.then_alloc ?_ _)) hb7; have c7 := cell_at (i := 2) hblk7 rfl; have hl7 := World.block_lt_of_cell? w7 _ c7; have hne7 : (Value.slice ac chs.length cc).ownBlock ≠ some vb := fun e => (by have := (hch7.lt _ e).1; omega); have hz7 := hk7.size))
            all_goals
              obtain ⟨g1, g2, g3, g4⟩ := MV.chap (W := w7.alloc (.cells #[.string t, .slice none 0 0] 65)) hσv hvB (Kept.heap (w := w7) (F := fun _ => True) (by repeat (first | exact Kept.refl _ _ | refine Kept.then_drew ?_ | refine Kept.then_alloc ?_ _)) hblk7 trivial) (hch7.keepAll (RChapO.ok k) (by repeat (first | exact Kept.refl _ _ | refine Kept.then_drew ?_ | refine Kept.then_alloc ?_ _))) (hk7.trans (Kept.all (by repeat (first | exact Kept.refl _ _ | refine Kept.then_drew ?_ | refine Kept.then_alloc ?_ _)))) (hs7.keep (by repeat (first | exact Kept.refl _ _ | refine Kept.then_drew ?_ | refine Kept.then_alloc ?_ _))) hacc8 hgrow
              have hm := Lib.hid (show MakingV σ vb B k (k + 1) n5 (3 * k + 2) 1 first right w5 _ from ⟨_, _, tag, n7, g1, g2, by simp, by simp; omega, g4, by omega, by omega, g3⟩)
              clear g1 g2 g3 g4 hgrow hat8 hacc8 hs7 hblk7 hch7 hk7 hb7 b8
              go_wp2_with fail
              go_meet
              exact hm.out
          case rest =>
            clear hso hblk hch hko c2 d0
            obtain ⟨chv, chs, tag, nq, hblk, hch, hlo, hhi, hsq, hnq1, hnq2, hkq⟩ := hcut
            obtain ⟨wq, rfl⟩ : ∃ wq : World, wq = wc := ⟨_, rfl⟩
            go_wp2_with fail
            refine (flip_any σ nq _ _ hsq (by omega) (by omega) (by omega)).mono ?_
            rintro e w6 ⟨v, n6, rfl, ⟨r, rfl⟩, hn13, hn14, hs6, hb6⟩
            obtain ⟨hblk6, hch6, hk6⟩ := MV.step hσv hvB hblk hch hkq (Kept.refl _ _) hb6
            clear hsq hblk hch hkq hb6
            cases r
            · obtain ⟨i, hi⟩ : ∃ i, chs.length = i + 1 := ⟨chs.length - 1, by omega⟩
              obtain ⟨vs, hH, cv, rfl, ⟨htz, hpl⟩, hps, hown⟩ := hch6.open (i := i) (by omega)
              obtain ⟨g, cap', hv, -, hBg⟩ := hH.form
              subst hv
              have c2 := cell_at (i := 2) hblk6 rfl
              have hl2 := World.block_lt_of_cell? w6 _ c2
              obtain ⟨bf, of, f, -, -, haf, hFf, cf0, -, -, -, hfs, -, -, -, -, -⟩ := (hf5.keep RFin.ok hk6).atFin (k := iz) hiz
              have hfz : f.paper.size ≤ 1000000 := hfs.1
              subst haf
              have cp : w6.cell? ⟨g, i * 2 + 1, none⟩ = some cv := hH.cell (j := 1) rfl
              have fp := hH.frozen (i * 2 + 1)
              have hne : cv.ownBlock ≠ some g := fun e => (hown g e).2 rfl
              have hgl := (hH.lt g rfl).2
              have hz6 := hk6.size
              have hiz1 : (0 : Int) ≤ (iz : Int) := by omega
              have hiz2 : (iz : Int) < (lf : Int) := by omega
              have hbfl : bf < w6.heap.size := lt_of_cell cf0
              have hs6l := hs6.lt
              generalize hps1 : chs[i].papers = ps at *
              generalize hts1 : chs[i].title = t at *
              clear hps1 hts1
              have hib : i ≤ 20 := by omega
              have HI := Lib.hid hi
              rw [hi] at c2 hblk6 hH hown
              clear hi
              go_wp2_with fail
              go_region_law (first
                | (refine step_append1 RStr.ok _ (by rfl) _ _ 32 (by rfl) 0 9 (.string ⟨#[]⟩) 1 16 undS (by kernel_rfl) rfl (by decide) (fun _ => False) cv ps (by rfl) (hps.keepAll RStr.ok (by repeat (first | exact Kept.refl _ _ | refine Kept.then_drew ?_ | refine Kept.then_alloc ?_ _))) ⟨w6.heap.size, 0, none⟩ 1 [.string f.paper] (by rfl) rfl (World.news_of_block (cs := #[.string f.paper]) (t := 9) (fr := (0, 0)) (heap_alloc_new w6 _)) (by simp [Value.oneCell']) f.paper ⟨rfl, hfz⟩ (by omega) (by decide) (by omega) ?_; intro p8 c8 w8 hacc8 hgrow hat8; have q1 : w8.cell? ⟨g, i * 2 + 1, none⟩ = some cv := hgrow.cell (Kept.cell (F := fun _ => True) (w := w6) (by repeat (first | exact Kept.refl _ _ | refine Kept.then_drew ?_ | refine Kept.then_alloc ?_ _)) cp trivial) (Ne.symm hne); have q2 : w8.frozen? ⟨g, i * 2 + 1, none⟩ = false := (frozen_block (hgrow.block g (Nat.lt_of_lt_of_le hgl (Kept.size (w := w6) (F := fun _ => True) (by repeat (first | exact Kept.refl _ _ | refine Kept.then_drew ?_ | refine Kept.then_alloc ?_ _)))) (Ne.symm hne))).trans ((hH.keepAll (RChapO.ok k) (by repeat (first | exact Kept.refl _ _ | refine Kept.then_drew ?_ | refine Kept.then_alloc ?_ _))).frozen _)))
              all_goals
                obtain ⟨g1, g2, g3, g4, g5⟩ := MV.grown (W := (w6.alloc (.cells #[.string f.paper] 9)).drew) hσv hvB (Kept.heap (w := w6) (F := fun _ => True) (by repeat (first | exact Kept.refl _ _ | refine Kept.then_drew ?_ | refine Kept.then_alloc ?_ _)) hblk6 trivial) (hk6.trans (Kept.all (by repeat (first | exact Kept.refl _ _ | refine Kept.then_drew ?_ | refine Kept.then_alloc ?_ _)))) (hs6.keep (by repeat (first | exact Kept.refl _ _ | refine Kept.then_drew ?_ | refine Kept.then_alloc ?_ _))) (hH.keepAll (RChapO.ok k) (by repeat (first | exact Kept.refl _ _ | refine Kept.then_drew ?_ | refine Kept.then_alloc ?_ _))) (hps.keepAll RStr.ok (by repeat (first | exact Kept.refl _ _ | refine Kept.then_drew ?_ | refine Kept.then_alloc ?_ _))) hown hgrow hat8
                obtain ⟨j1, j2, j3, j4⟩ := MV.paper hσv hvB g3 g4 g5 g1 g2 htz hpl hacc8
                have hm := Lib.hid (show MakingV σ vb B (k + 1) (k + 1) n5 (3 * (k + 1)) 0 first right w5 _ from ⟨_, _, _, n6, j1, j2, by omega, by rw [List.length_set]; omega, j4, by omega, by omega, j3⟩)
                clear g1 g2 g3 g4 g5 j1 j2 j3 j4 hgrow hat8 hacc8 hs6 hblk6 hH hps hk6 hown hch6
                go_wp2_with fail
                go_roundw
                case rel => exact ⟨k + 1, by omega, by go_num, hm.out⟩
                case measure => simp [intOf]; omega
            · have hm := Lib.hid (show MakingV σ vb B (k + 1) (k + 1) n5 (3 * (k + 1)) 0 first right w5 w6 from ⟨_, _, tag, n6, hblk6, hch6.imp (fun _ _ _ h => h.up (by omega)), by omega, hhi, hs6, by omega, by omega, hk6⟩)
              clear hblk6 hch6 hk6 hs6
              go_wp2_with fail
              go_roundw
              case rel => exact ⟨k + 1, by omega, by go_num, hm.out⟩
              case measure => simp [intOf]; omega
        · have d0 : ((chs.length : Int) == 0) = false := by simp; exact fun e => h0 (by rw [e]; rfl)
          go_wp2_with fail
          refine (flip_any σ no _ _ hso (by omega) (by omega) (by omega)).mono ?_
          rintro e w6 ⟨v, n6, rfl, ⟨r, rfl⟩, hn11, hn12, hs6, hb6⟩
          obtain ⟨hblk6, hch6, hk6⟩ := MV.step hσv hvB hblk hch hko (Kept.refl _ _) hb6
          have hs6l := hs6.lt
          have c26 := cell_at (i := 2) hblk6 rfl
          have hl26 : vb < w6.heap.size := World.block_lt_of_cell? w6 _ c26
          clear hso hblk hch hko hb6 c2
          go_upto_if 37 with fail
          go_cut [] (fun wx => MakingV σ vb B k (k + 1) n5 (3 * k + 2) 1 first right w5 wx)
          case first =>
            cases r
            · have hm := Lib.hid (show MakingV σ vb B k (k + 1) n5 (3 * k + 2) 1 first right w5 w6 from ⟨_, _, tag, n6, hblk6, hch6, by omega, by omega, hs6, by omega, by omega, hk6⟩)
              clear hblk6 hch6 hs6 hk6
              go_wp2_with fail
              go_meet
              exact hm.out
            · go_wp2_with fail
              go_region_law (first
                | (refine step_append1I (RChapO.ok k) _ (by rfl) _ _ 28 (by rfl) B 65 (.agg #[.string ⟨#[]⟩, .slice none 0 0]) 2 40 undCh (by kernel_rfl) rfl (by decide) (Tag B tag) (.slice ac chs.length cc) chs (by rfl) (hch7.keepAll (RChapO.ok k) (by repeat (first | exact Kept.refl _ _ | refine Kept.then_drew ?_ | refine Kept.then_alloc ?_ _))) ⟨w7.heap.size, 0, none⟩ 1 [.string t, .slice none 0 0] (by rfl) rfl (World.news_of_block (cs := #[.string t, .slice none 0 0]) (t := 65) (fr := (0, 0)) (heap_alloc_new w7 _)) (by simp [Value.oneCell']) ⟨t, []⟩ ⟨_, rfl, ⟨htz, by simp⟩, Acc.nil _ _ _ _ _ _, fun k hk => by cases hk⟩ (by omega) (by decide) (by simp; omega) ?_; intro p8 c8 w8 hacc8 hgrow hat8; have b8 := hgrow_heapF hgrow (Kept.heap (w := w7) (F := fun _ => True) (by repeat (first | exact Kept.refl _ _ | refine Kept.then_drew ?_ | refine Kept.then_alloc ?_ _)) hblk7 trivial) (Ne.symm hne7); have c18 := cell_at (i := 2) b8 rfl; have f18 := frozen_at (i := 2) b8)
                | (go_simp; go_at_call 18; refine (some10_any σ n6 _ _ _ [⟨#[80, 108, 97, 110, 116, 115]⟩, ⟨#[83, 116, 111, 110, 101, 115]⟩] _ (hs6.keep (by repeat (first | exact Kept.refl _ _ | refine Kept.then_drew ?_ | refine Kept.then_alloc ?_ _))) (by omega) (Sl.lit_strs _ (by first | exact heap_at _ _ _ (by first | rfl | simp) | exact heap_old _ (heap_at _ _ _ (by first | rfl | simp))) rfl (by omega)) (by simp) (by simp)).mono ?_; rintro e w7 ⟨v, n7, rfl, ⟨t, rfl, -, htz⟩, hn15, hn16, hs7, hb7⟩; obtain ⟨hblk7, hch7, hk7⟩ := MV.step hσv hvB hblk6 hch6 hk6 (by repeat (first | exact Kept.refl _ _ | refine Kept.then_drew ?_ | refine Kept.then_alloc ?_ _)) hb7; have c7 := cell_at (i := 2) hblk7 rfl; have hl7 := World.block_lt_of_cell? w7 _ c7; have hne7 : (Value.slice ac chs.length cc).ownBlock ≠ some vb := fun e => (by have := (hch7.lt _ e).1; omega); have hz7 := hk7.size))
              all_goals
                obtain ⟨g1, g2, g3, g4⟩ := MV.chap (W := w7.alloc (.cells #[.string t, .slice none 0 0] 65)) hσv hvB (Kept.heap (w := w7) (F := fun _ => True) (by repeat (first | exact Kept.refl _ _ | refine Kept.then_drew ?_ | refine Kept.then_alloc ?_ _)) hblk7 trivial) (hch7.keepAll (RChapO.ok k) (by repeat (first | exact Kept.refl _ _ | refine Kept.then_drew ?_ | refine Kept.then_alloc ?_ _))) (hk7.trans (Kept.all (by repeat (first | exact Kept.refl _ _ | refine Kept.then_drew ?_ | refine Kept.then_alloc ?_ _)))) (hs7.keep (by repeat (first | exact Kept.refl _ _ | refine Kept.then_drew ?_ | refine Kept.then_alloc ?_ _))) hacc8 hgrow
                have hm := Lib.hid (show MakingV σ vb B k (k + 1) n5 (3 * k + 2) 1 first right w5 _ from ⟨_, _, tag, n7, g1, g2, by simp, by simp; omega, g4, by omega, by omega, g3⟩)
                clear g1 g2 g3 g4 hgrow hat8 hacc8 hs7 hblk7 hch7 hk7 hb7 b8
                go_wp2_with fail
                go_meet
                exact hm.out
          case rest =>
            clear hs6 hblk6 hch6 hk6 c26 h0 d0
            obtain ⟨chv, chs, tag, nq, hblk, hch, hlo, hhi, hsq, hnq1, hnq2, hkq⟩ := hcut
            obtain ⟨wq, rfl⟩ : ∃ wq : World, wq = wc := ⟨_, rfl⟩
            go_wp2_with fail
            refine (flip_any σ nq _ _ hsq (by omega) (by omega) (by omega)).mono ?_
            rintro e w6 ⟨v, n6, rfl, ⟨r, rfl⟩, hn13, hn14, hs6, hb6⟩
            obtain ⟨hblk6, hch6, hk6⟩ := MV.step hσv hvB hblk hch hkq (Kept.refl _ _) hb6
            clear hsq hblk hch hkq hb6
            cases r
            · obtain ⟨i, hi⟩ : ∃ i, chs.length = i + 1 := ⟨chs.length - 1, by omega⟩
              obtain ⟨vs, hH, cv, rfl, ⟨htz, hpl⟩, hps, hown⟩ := hch6.open (i := i) (by omega)
              obtain ⟨g, cap', hv, -, hBg⟩ := hH.form
              subst hv
              have c2 := cell_at (i := 2) hblk6 rfl
              have hl2 := World.block_lt_of_cell? w6 _ c2
              obtain ⟨bf, of, f, -, -, haf, hFf, cf0, -, -, -, hfs, -, -, -, -, -⟩ := (hf5.keep RFin.ok hk6).atFin (k := iz) hiz
              have hfz : f.paper.size ≤ 1000000 := hfs.1
              subst haf
              have cp : w6.cell? ⟨g, i * 2 + 1, none⟩ = some cv := hH.cell (j := 1) rfl
              have fp := hH.frozen (i * 2 + 1)
              have hne : cv.ownBlock ≠ some g := fun e => (hown g e).2 rfl
              have hgl := (hH.lt g rfl).2
              have hz6 := hk6.size
              have hiz1 : (0 : Int) ≤ (iz : Int) := by omega
              have hiz2 : (iz : Int) < (lf : Int) := by omega
              have hbfl : bf < w6.heap.size := lt_of_cell cf0
              have hs6l := hs6.lt
              generalize hps1 : chs[i].papers = ps at *
              generalize hts1 : chs[i].title = t at *
              clear hps1 hts1
              have hib : i ≤ 20 := by omega
              have HI := Lib.hid hi
              rw [hi] at c2 hblk6 hH hown
              clear hi
              go_wp2_with fail
              go_region_law (first
                | (refine step_append1 RStr.ok _ (by rfl) _ _ 32 (by rfl) 0 9 (.string ⟨#[]⟩) 1 16 undS (by kernel_rfl) rfl (by decide) (fun _ => False) cv ps (by rfl) (hps.keepAll RStr.ok (by repeat (first | exact Kept.refl _ _ | refine Kept.then_drew ?_ | refine Kept.then_alloc ?_ _))) ⟨w6.heap.size, 0, none⟩ 1 [.string f.paper] (by rfl) rfl (World.news_of_block (cs := #[.string f.paper]) (t := 9) (fr := (0, 0)) (heap_alloc_new w6 _)) (by simp [Value.oneCell']) f.paper ⟨rfl, hfz⟩ (by omega) (by decide) (by omega) ?_; intro p8 c8 w8 hacc8 hgrow hat8; have q1 : w8.cell? ⟨g, i * 2 + 1, none⟩ = some cv := hgrow.cell (Kept.cell (F := fun _ => True) (w := w6) (by repeat (first | exact Kept.refl _ _ | refine Kept.then_drew ?_ | refine Kept.then_alloc ?_ _)) cp trivial) (Ne.symm hne); have q2 : w8.frozen? ⟨g, i * 2 + 1, none⟩ = false := (frozen_block (hgrow.block g (Nat.lt_of_lt_of_le hgl (Kept.size (w := w6) (F := fun _ => True) (by repeat (first | exact Kept.refl _ _ | refine Kept.then_drew ?_ | refine Kept.then_alloc ?_ _)))) (Ne.symm hne))).trans ((hH.keepAll (RChapO.ok k) (by repeat (first | exact Kept.refl _ _ | refine Kept.then_drew ?_ | refine Kept.then_alloc ?_ _))).frozen _)))
              all_goals
                obtain ⟨g1, g2, g3, g4, g5⟩ := MV.grown (W := (w6.alloc (.cells #[.string f.paper] 9)).drew) hσv hvB (Kept.heap (w := w6) (F := fun _ => True) (by repeat (first | exact Kept.refl _ _ | refine Kept.then_drew ?_ | refine Kept.then_alloc ?_ _)) hblk6 trivial) (hk6.trans (Kept.all (by repeat (first | exact Kept.refl _ _ | refine Kept.then_drew ?_ | refine Kept.then_alloc ?_ _)))) (hs6.keep (by repeat (first | exact Kept.refl _ _ | refine Kept.then_drew ?_ | refine Kept.then_alloc ?_ _))) (hH.keepAll (RChapO.ok k) (by repeat (first | exact Kept.refl _ _ | refine Kept.then_drew ?_ | refine Kept.then_alloc ?_ _))) (hps.keepAll RStr.ok (by repeat (first | exact Kept.refl _ _ | refine Kept.then_drew ?_ | refine Kept.then_alloc ?_ _))) hown hgrow hat8
                obtain ⟨j1, j2, j3, j4⟩ := MV.paper hσv hvB g3 g4 g5 g1 g2 htz hpl hacc8
                have hm := Lib.hid (show MakingV σ vb B (k + 1) (k + 1) n5 (3 * (k + 1)) 0 first right w5 _ from ⟨_, _, _, n6, j1, j2, by omega, by rw [List.length_set]; omega, j4, by omega, by omega, j3⟩)
                clear g1 g2 g3 g4 g5 j1 j2 j3 j4 hgrow hat8 hacc8 hs6 hblk6 hH hps hk6 hown hch6
                go_wp2_with fail
                go_roundw
                case rel => exact ⟨k + 1, by omega, by go_num, hm.out⟩
                case measure => simp [intOf]; omega
            · have hm := Lib.hid (show MakingV σ vb B (k + 1) (k + 1) n5 (3 * (k + 1)) 0 first right w5 w6 from ⟨_, _, tag, n6, hblk6, hch6.imp (fun _ _ _ h => h.up (by omega)), by omega, hhi, hs6, by omega, by omega, hk6⟩)
              clear hblk6 hch6 hk6 hs6
              go_wp2_with fail
              go_roundw
              case rel => exact ⟨k + 1, by omega, by go_num, hm.out⟩
              case measure => simp [intOf]; omega
      · have hd : decide ((k : Int) < (lf : Int)) = false := by simp; omega
        have hrbo := hko.heap hrb5 ⟨by omega, by omega, by omega⟩
        have hσr : σ.b < w.heap.size := hlt
        have hrB5 : w.heap.size < B := by omega
        have hbo : But σ.b w wo := hb05.trans2 hko fun i hi hf => ⟨hf, by omega, by omega⟩
        clear c2
        by_cases h0 : chs.length = 0
        · have d1 : decide (0 < chs.length) = false := decide_eq_false (by omega)
          clear h0
          have z0 := cell_at (i := 0) hrbo rfl
          have z1 := cell_at (i := 1) hrbo rfl
          have z2 := cell_at (i := 2) hrbo rfl
          have y0 := frozen_at (i := 0) hrbo
          have y1 := frozen_at (i := 1) hrbo
          have y2 := frozen_at (i := 2) hrbo
          have x0 := cell_at (i := 0) hblk rfl
          have x1 := cell_at (i := 1) hblk rfl
          have x2 := cell_at (i := 2) hblk rfl
          obtain ⟨R1, R2, R3, R4⟩ := VRet (first := first) (right := right) hσr hrB5 (Nat.le_refl _) hch hrbo hso hbo (by omega) (by omega)
          have r0 := cell_at (i := 0) R4 rfl
          have r1 := cell_at (i := 1) R4 rfl
          have r2 := cell_at (i := 2) R4 rfl
          have P1 := Lib.hid R1
          have P2 := Lib.hid R2
          have P3 := Lib.hid R3
          clear hblk hch hrbo hso hbo hko R1 R2 R3 R4
          go_wp2_with fail
          refine bodyPost_ret (v := .agg #[.int .i64 first, .bool right, .slice ac chs.length cc]) ?_ rfl ⟨_, no, rfl, P1.out, by omega, by omega, P2.out, P3.out⟩
          simp [results, Tryz.results5, go_sem, r0, r1, r2]
        · have d1 : decide (0 < chs.length) = true := decide_eq_true (by omega)
          have c2 := cell_at (i := 2) hblk rfl
          go_wp2_with fail
          refine (flip_any σ no _ _ hso (by omega) (by omega) (by omega)).mono ?_
          rintro e w6 ⟨v, n6, rfl, ⟨r, rfl⟩, hn11, hn12, hs6, hb6⟩
          obtain ⟨hblk6, hch6, hk6⟩ := MV.step hσv hvB hblk hch hko (Kept.refl _ _) hb6
          have hrb6 := hb6.heap hrbo (by omega)
          have hbo6 : But σ.b w w6 := hbo.trans hb6
          have hnz : ¬ chs.length = 0 := h0
          clear hso hblk hch hko hb6 c2 hrbo hbo
          go_upto_if 79 with fail
          go_cut [] (fun wx => PostV σ vb w.heap.size B (k + 1) n 100 first right w wx)
          case first =>
            cases r
            · have hm := Lib.hid (show PostV σ vb w.heap.size B (k + 1) n 100 first right w w6 from ⟨_, _, chs, tag, n6, hblk6, hch6.imp (fun _ _ _ h => h.up (by omega)), by omega, hrb6, hs6, by omega, by omega, hbo6⟩)
              clear hblk6 hch6 hs6 hk6 hrb6 hbo6
              go_wp2_with fail
              go_meet
              exact hm.out
            · obtain ⟨g, cap', vs0, hv0, hBg, -⟩ := hch6.at (i := 0) (by omega)
              cases hv0
              have c2 := cell_at (i := 2) hblk6 rfl
              have hl2 : vb < w6.heap.size := World.block_lt_of_cell? w6 _ c2
              have hs6l := hs6.lt
              have hcl20 : chs.length ≤ 20 := by omega
              go_wp2_with fail
              go_region_held3 (fun w' => w'.cell? ⟨vb, 2, none⟩ = some (.slice (some ⟨g, 0, none⟩) chs.length cc)) (go_keep) ((go_at_call 6; refine (next_any σ n6 _ _ (hs6.keep (by repeat (first | exact Kept.refl _ _ | refine Kept.then_drew ?_ | refine Kept.then_alloc ?_ _))) (by omega) (by omega) (by omega)).mono ?_; rintro e w7 ⟨v, n7, rfl, ⟨ri, rfl, hr1, hr2⟩, hn13, hn14, hs7, hb7⟩; obtain ⟨i, rfl⟩ := Int.eq_ofNat_of_zero_le hr1; obtain ⟨hblk7, hch7, hk7⟩ := MV.step hσv hvB hblk6 hch6 hk6 (by repeat (first | exact Kept.refl _ _ | refine Kept.then_drew ?_ | refine Kept.then_alloc ?_ _)) hb7; have hrb7 := hb7.heap (Kept.heap (w := w6) (F := fun _ => True) (by repeat (first | exact Kept.refl _ _ | refine Kept.then_drew ?_ | refine Kept.then_alloc ?_ _)) hrb6 trivial) (by omega); have hbo7 : But σ.b w w7 := hbo6.trans ((Kept.all (by repeat (first | exact Kept.refl _ _ | refine Kept.then_drew ?_ | refine Kept.then_alloc ?_ _)) : But σ.b w6 _).trans hb7); have c27 : w7.cell? ⟨vb, 2, none⟩ = some (.slice (some ⟨g, 0, none⟩) chs.length cc) := cell_at (i := 2) hblk7 rfl))
              clear hs6 hblk6 hch6 hk6 hrb6 hbo6 c2
              have hil : i < chs.length := by omega
              obtain ⟨vs, hH7, cv, rfl, ⟨htz, hpl⟩, hps7, hown⟩ := hch7.open hil
              generalize chs[i].papers = ps at *
              generalize chs[i].title = t at *
              have tok1 : True := trivial
              have cp7 : w7.cell? ⟨g, i * 2 + 1, none⟩ = some cv := hH7.cell (j := 1) rfl
              have ct7 : w7.cell? ⟨g, i * 2, none⟩ = some (.string t) := hH7.cell (j := 0) rfl
              have hne : cv.ownBlock ≠ some g := fun e => (hown g e).2 rfl
              have hgl7 := (hH7.lt g rfl).2
              have hs7l := hs7.lt
              clear hch7
              go_wp2_with fail
              go_region_law (first
                | (refine step_append1 RStr.ok _ (by rfl) _ _ 32 (by rfl) 0 9 (.string ⟨#[]⟩) 1 16 undS (by kernel_rfl) rfl (by decide) (fun _ => False) cv ps (by rfl) (hps9.keepAll RStr.ok (by repeat (first | exact Kept.refl _ _ | refine Kept.then_drew ?_ | refine Kept.then_alloc ?_ _))) ⟨w9.heap.size, 0, none⟩ 1 [.string s] (by rfl) rfl (World.news_of_block (cs := #[.string s]) (t := 9) (fr := (0, 0)) (heap_alloc_new w9 _)) (by simp [Value.oneCell']) s ⟨rfl, hsz⟩ (by omega) (by decide) (by omega) ?_; intro p10 c10 w10 hacc10 hgrow hat10; have q1 : w10.cell? ⟨g, i * 2 + 1, none⟩ = some cv := hgrow.cell (Kept.cell (F := fun _ => True) (w := w9) (by repeat (first | exact Kept.refl _ _ | refine Kept.then_drew ?_ | refine Kept.then_alloc ?_ _)) cp9 trivial) (Ne.symm hne); have q0 : w10.cell? ⟨g, i * 2, none⟩ = some (.string t) := hgrow.cell (Kept.cell (F := fun _ => True) (w := w9) (by repeat (first | exact Kept.refl _ _ | refine Kept.then_drew ?_ | refine Kept.then_alloc ?_ _)) ct9 trivial) (Ne.symm hne); have q2 : w10.frozen? ⟨g, i * 2 + 1, none⟩ = false := (frozen_block (hgrow.block g (Nat.lt_of_lt_of_le hgl9 (Kept.size (w := w9) (F := fun _ => True) (by repeat (first | exact Kept.refl _ _ | refine Kept.then_drew ?_ | refine Kept.then_alloc ?_ _)))) (Ne.symm hne))).trans ((hH9.keepAll (RChapO.ok k) (by repeat (first | exact Kept.refl _ _ | refine Kept.then_drew ?_ | refine Kept.then_alloc ?_ _))).frozen _); have q3 : w10.frozen? ⟨g, i * 2, none⟩ = false := (frozen_block (hgrow.block g (Nat.lt_of_lt_of_le hgl9 (Kept.size (w := w9) (F := fun _ => True) (by repeat (first | exact Kept.refl _ _ | refine Kept.then_drew ?_ | refine Kept.then_alloc ?_ _)))) (Ne.symm hne))).trans ((hH9.keepAll (RChapO.ok k) (by repeat (first | exact Kept.refl _ _ | refine Kept.then_drew ?_ | refine Kept.then_alloc ?_ _))).frozen _))
                | (go_simp; go_at_call 18; have _t := tok1; refine (some10_any σ n7 _ _ _ [⟨#[]⟩, ⟨#[80, 108, 97, 110, 116, 115]⟩] _ (hs7.keep (by repeat (first | exact Kept.refl _ _ | refine Kept.then_drew ?_ | refine Kept.then_alloc ?_ _))) (by omega) (Sl.lit_strs _ (by first | exact heap_at _ _ _ (by first | rfl | simp) | exact heap_old _ (heap_at _ _ _ (by first | rfl | simp))) rfl (by omega)) (by simp) (by simp)).mono ?_; rintro e w8 ⟨v, n8, rfl, ⟨t', rfl, -, htz'⟩, hn15, hn16, hs8, hb8⟩; clear tok1 _t; obtain ⟨hblk8, hk8, hH8, hps8, hrb8, hbo8⟩ := CH.step hσv hvB hσr hblk7 hk7 hH7 hps7 hown hrb7 hbo7 (by repeat (first | exact Kept.refl _ _ | refine Kept.then_drew ?_ | refine Kept.then_alloc ?_ _)) hb8; have hs8l := hs8.lt; have hz8 := hb8.size; have hgl8 := (hH8.lt g rfl).2; have cp8 : w8.cell? ⟨g, i * 2 + 1, none⟩ = some cv := hH8.cell (j := 1) rfl; have ct8 : w8.cell? ⟨g, i * 2, none⟩ = some (.string t) := hH8.cell (j := 0) rfl)
                | (go_simp; go_at_call 18; refine (some10_any σ n8 _ _ _ [⟨#[112, 97]⟩, ⟨#[110, 111, 110, 101]⟩] _ (hs8.keep (by repeat (first | exact Kept.refl _ _ | refine Kept.then_drew ?_ | refine Kept.then_alloc ?_ _))) (by omega) (Sl.lit_strs _ (by first | exact heap_at _ _ _ (by first | rfl | simp) | exact heap_old _ (heap_at _ _ _ (by first | rfl | simp)) | exact hb8.heap (heap_at _ _ _ (by first | rfl | simp)) (by omega) | exact hb8.heap (heap_old _ (heap_at _ _ _ (by first | rfl | simp))) (by omega)) rfl (by omega)) (by simp) (by simp)).mono ?_; rintro e w9 ⟨v, n9, rfl, ⟨s, rfl, -, hsz⟩, hn17, hn18, hs9, hb9⟩; obtain ⟨hblk9, hk9, hH9, hps9, hrb9, hbo9⟩ := CH.step hσv hvB hσr hblk8 hk8 hH8 hps8 hown hrb8 hbo8 (by repeat (first | exact Kept.refl _ _ | refine Kept.then_drew ?_ | refine Kept.then_alloc ?_ _)) hb9; have hs9l := hs9.lt; have hgl9 := (hH9.lt g rfl).2; have cp9 : w9.cell? ⟨g, i * 2 + 1, none⟩ = some cv := hH9.cell (j := 1) rfl; have ct9 : w9.cell? ⟨g, i * 2, none⟩ = some (.string t) := hH9.cell (j := 0) rfl))
              all_goals
                have hm := Lib.hid (PostV.make (n := n) (first := first) (right := right) hσv hvB hrB5 hblk9 hk9 hs9 hH9 hps9 hown hrb9 hbo9 (W := w9.alloc (.cells #[.string s] 9)) (by repeat (first | exact Kept.refl _ _ | refine Kept.then_drew ?_ | refine Kept.then_alloc ?_ _)) hacc10 hgrow hat10 htz' hpl (by omega) (by omega) hcl20)
                clear hacc10 hgrow hat10 hs9 hs8 hs7 hblk9 hblk8 hblk7 hk9 hk8 hk7 hH9 hH8 hH7 hps9 hps8 hps7 hrb9 hrb8 hrb7 hbo9 hbo8 hbo7 hb9 hb8 hown q0 q1 q2 q3
                go_wp2_with fail
                go_meet
                exact hm.out
          case rest =>
            clear hs6 hblk6 hch6 hk6 hrb6 hbo6 h0 hnz d1
            obtain ⟨ac, cc, chs, tag, nz, hblkz, hchz, hlz, hrbz, hsz, hnz1, hnz2, hboz⟩ := hcut
            obtain ⟨wz, rfl⟩ : ∃ wz : World, wz = wc := ⟨_, rfl⟩
            have z0 := cell_at (i := 0) hrbz rfl
            have z1 := cell_at (i := 1) hrbz rfl
            have z2 := cell_at (i := 2) hrbz rfl
            have y0 := frozen_at (i := 0) hrbz
            have y1 := frozen_at (i := 1) hrbz
            have y2 := frozen_at (i := 2) hrbz
            have x0 := cell_at (i := 0) hblkz rfl
            have x1 := cell_at (i := 1) hblkz rfl
            have x2 := cell_at (i := 2) hblkz rfl
            obtain ⟨R1, R2, R3, R4⟩ := VRet (first := first) (right := right) hσr hrB5 (Nat.le_refl _) hchz hrbz hsz hboz (by omega) (by omega)
            have r0 := cell_at (i := 0) R4 rfl
            have r1 := cell_at (i := 1) R4 rfl
            have r2 := cell_at (i := 2) R4 rfl
            have P1 := Lib.hid R1
            have P2 := Lib.hid R2
            have P3 := Lib.hid R3
            clear hblkz hchz hrbz hsz hboz  R1 R2 R3 R4
            go_wp2_with fail
            refine bodyPost_ret (v := .agg #[.int .i64 first, .bool right, .slice ac chs.length cc]) ?_ rfl ⟨_, nz, rfl, P1.out, by omega, by omega, P2.out, P3.out⟩
            simp [results, Tryz.results5, go_sem, r0, r1, r2]
end Go.Proofs.YtbpbhpmkganefaaGreatDoor
