/- RightFinals makes well-formed finals, each with credits in a row of its own. -/
import Derived.Test.YtbpbhpmkganefaaGreatDoorGe
namespace Go.Proofs.YtbpbhpmkganefaaGreatDoor
open Go.RowKit

theorem AccI.live {α : Type} {R : Rel α} (ok : R.Ok) {sz : Nat} {T : TypeId} {F : Nat → Nat → Prop} {B : Nat} {w : World} {v : Value} {xs : List α} (h : AccI R sz T F B w v xs) : AccI R sz T (fun i k => F i k ∧ k < w.heap.size) B w v xs := by
  obtain ⟨cells, ho, he⟩ := h
  exact ⟨cells, ho, fun i hi => ok.mono (fun k hk => ⟨⟨hk.1.1, hk.2⟩, hk.1.2⟩) (ok.live (he i hi))⟩

theorem AccI.base {α : Type} {R : Rel α} {sz : Nat} {T : TypeId} {F : Nat → Nat → Prop} {B B' : Nat} {w : World} {v : Value} {xs : List α} (h : AccI R sz T F B w v xs) (hb : B' ≤ B) : AccI R sz T F B' w v xs := by
  obtain ⟨cells, ho, he⟩ := h
  refine ⟨cells, ⟨ho.1, ?_⟩, he⟩
  rcases ho.2 with hn | ⟨g, cap, cur, hv, hg, rest⟩
  · exact .inl hn
  · exact .inr ⟨g, cap, cur, hv, by omega, rest⟩
/-- What is new from S on belongs to element m. -/
def retag (S m : Nat) (tag : Nat → Nat) (k : Nat) : Nat := if S ≤ k then m else tag k
theorem retag_new {S m : Nat} {tag : Nat → Nat} {k : Nat} (h : S ≤ k) : retag S m tag k = m := by unfold retag; rw [if_pos h]
theorem retag_old {S m : Nat} {tag : Nat → Nat} {k : Nat} (h : k < S) : retag S m tag k = tag k := by unfold retag; rw [if_neg (by omega)]
/-- Block k belongs to element tag k, and is new since the heap had B blocks. -/
def Tag (B : Nat) (tag : Nat → Nat) (i k : Nat) : Prop := tag k = i ∧ B ≤ k
theorem heap_oldF {w : World} {b : Nat} {o : Obj} (o' : Obj) (h : w.heap[b]? = some o) : (w.alloc o').drew.heap[b]? = some o := heap_old o' h
theorem hgrow_heapF {w w' : World} {row : Option Nat} {b : Nat} {o : Obj} (hg : w.grownBy w' row) (h : w.heap[b]? = some o) (hne : some b ≠ row) : w'.heap[b]? = some o := by
  rw [hg.block b (by rcases Array.getElem?_eq_some_iff.1 h with ⟨h, _⟩; exact h) hne]; exact h

/-- A final in the making lies in block fb. -/
def MakingF (σ : St) (fb : Nat) (paper title : ByteArray) (pages : Int) (w3 wx : World) (n c l : Nat) : Prop :=
  ∃ (cv : Value) (cs : List Cred) (n' : Nat), wx.heap[fb]? = some (.cells #[.string paper, .string title, .int .i64 pages, cv] 57 (0, 0)) ∧ Acc RCred 2 61 (fun _ => False) w3.heap.size wx cv cs ∧ cs.length ≤ l ∧
    Str σ wx n' ∧ n ≤ n' ∧ n' ≤ n + c ∧ Kept (fun k => k ≠ σ.b ∧ k ≠ fb ∧ k < w3.heap.size) w3 wx
theorem MakingF.step {σ : St} {fb : Nat} {w3 w4 W w5 : World} {paper title : ByteArray} {pages : Int} {cv : Value} {cs : List Cred}
    (hb : σ.b < fb) (hb3 : fb < w3.heap.size) (hblk : w4.heap[fb]? = some (.cells #[.string paper, .string title, .int .i64 pages, cv] 57 (0, 0)))
    (hrs : Acc RCred 2 61 (fun _ => False) w3.heap.size w4 cv cs) (hk : Kept (fun k => k ≠ σ.b ∧ k ≠ fb ∧ k < w3.heap.size) w3 w4) (hW : All w4 W) (hb5 : But σ.b W w5) :
    w5.heap[fb]? = some (.cells #[.string paper, .string title, .int .i64 pages, cv] 57 (0, 0)) ∧ Acc RCred 2 61 (fun _ => False) w3.heap.size w5 cv cs ∧ Kept (fun k => k ≠ σ.b ∧ k ≠ fb ∧ k < w3.heap.size) w3 w5 ∧ But σ.b w4 w5 :=
  ⟨hb5.heap (hW.heap hblk trivial) (by omega), (hrs.keepAll RCred.ok hW).keep RCred.ok hb5 (fun _ h => h.elim) (fun k' hk' => by have := (hrs.lt k' hk').1; omega), (hk.trans (Kept.all hW)).trans (hb5.mono fun k hk => hk.1), (Kept.all hW).trans hb5⟩
/-- The credits grow by one. -/
theorem MakingF.grow {σ : St} {fb : Nat} {w3 w5 W w6 : World} {n c l n' : Nat} {paper title : ByteArray} {pages : Int} {cv : Value} {cs : List Cred} {y : Cred} {p6 : Option Addr} {c6 : Nat}
    (hb : σ.b < fb) (hb3 : fb < w3.heap.size) (hblk5 : w5.heap[fb]? = some (.cells #[.string paper, .string title, .int .i64 pages, cv] 57 (0, 0)))
    (hrs5 : Acc RCred 2 61 (fun _ => False) w3.heap.size w5 cv cs) (hs5 : Str σ w5 n') (hk5 : Kept (fun k => k ≠ σ.b ∧ k ≠ fb ∧ k < w3.heap.size) w3 w5) (hW : All w5 W)
    (hacc6 : Acc RCred 2 61 (fun _ => False) w3.heap.size w6 (.slice p6 (cs.length + 1) c6) (cs ++ [y])) (hgrow : W.grownBy w6 cv.ownBlock)
    (hl : cs.length + 1 ≤ l) (hn1 : n ≤ n') (hn2 : n' ≤ n + c) :
    MakingF σ fb paper title pages w3 (w6.setCell ⟨fb, 3, none⟩ (.slice p6 (cs.length + 1) c6)) n c l := by
  have hne1 : cv.ownBlock ≠ some fb := fun e => by have := (hrs5.lt _ e).1; omega
  have hbq := hgrow_heapF hgrow (hW.heap hblk5 trivial) (Ne.symm hne1)
  have hk6 : Kept (fun k => k ≠ σ.b ∧ k ≠ fb ∧ k < w3.heap.size) w3 w6 := (hk5.trans (Kept.all hW)).grown hgrow (fun k hk => Or.inl (hrs5.lt k hk).1)
  have hs6 : Str σ w6 n' := (hs5.keep hW).kept (F := fun k => k < w3.heap.size) ((Kept.refl _ _).grown hgrow (fun k hk => Or.inr (by have := (hrs5.lt k hk).1; omega))) (fun k hk => by omega)
  exact ⟨_, cs ++ [y], n', heap_setCell_at _ _ _ _ _ _ _ hbq, hacc6.keep RCred.ok (Kept.setCell (F := fun k => k ≠ fb) _ _ _ (by simp)) (fun k hk => hk.elim) (fun k hk => by have := (hacc6.lt k hk).1; omega), by simp; omega, hs6.set _ _ (by dsimp only; omega), hn1, hn2, hk6.then_setCell _ _ (by simp)⟩

/-- A row of one element, written out. -/
theorem Acc.row1 {α : Type} {R : Rel α} {sz : Nat} {T : TypeId} {F : Nat → Prop} {B : Nat} {w : World} {g : Nat} {vs : List Value} {y : α} (h : w.heap[g]? = some (.cells vs.toArray T (0, 0))) (hl : vs.length = sz) (hB : B ≤ g) (hy : R (fun k => F k ∧ some g ≠ some k) w vs y) : Acc R sz T F B w (.slice (some ⟨g, 0, none⟩) 1 1) [y] := by
  refine ⟨vs, ⟨by simpa using hl, .inr ⟨g, 1, _, by simp, hB, h, by simp, by unfold maxLen; omega, by simpa using hl, ?_⟩⟩, fun i hi => ?_⟩
  · simp only [List.length_cons, List.length_nil, Nat.zero_add, Nat.one_mul]
    exact List.take_of_length_le (by omega)
  · have h0 : i = 0 := by simpa using hi
    subst h0
    simp only [Nat.zero_mul, List.drop_zero]
    rw [List.take_of_length_le (by omega)]
    exact hy
theorem undC : Tryz.prog.underlying 55 = some (.slice 61) := Tryz.underlying55
/-- Finals of the call's own; each has its credits in a row of its own. -/
def IsFinals (σ : St) (m B : Nat) (v : Value) (w : World) : Prop := ∃ (xs : List Fin4) (tag : Nat → Nat), AccI (RFinO 10) 4 57 (Tag B tag) B w v xs ∧ xs.length ≤ m ∧ σ.b < B

set_option maxRecDepth 100000 in
set_option maxHeartbeats 3200000 in
theorem rightFinals_any (σ : St) (n : Nat) (w : World) (hs : Str σ w n) (hn : n ≤ 4611686018427300000) :
    Calls Tryz.prog 16 #[.pointer (some ⟨σ.b, 0, none⟩)] w (StPost σ n 100 w (IsFinals σ 4 w.heap.size)) := by
  have hlt := hs.lt
  have hs0 := hs.keep (Kept.alloc (fun _ => True) w (.cells #[.string ⟨#[112, 97]⟩, .string ⟨#[112, 98]⟩, .string ⟨#[112, 99]⟩, .string ⟨#[112, 100]⟩] 9))
  have hk0 : But σ.b w (w.alloc (.cells #[.string ⟨#[112, 97]⟩, .string ⟨#[112, 98]⟩, .string ⟨#[112, 99]⟩, .string ⟨#[112, 100]⟩] 9)) := Kept.alloc _ _ _
  have hids := Sl.lit_strs (F := fun k => k ≠ σ.b ∧ k ≤ w.heap.size) [⟨#[112, 97]⟩, ⟨#[112, 98]⟩, ⟨#[112, 99]⟩, ⟨#[112, 100]⟩] (heap_at w (.cells #[.string ⟨#[112, 97]⟩, .string ⟨#[112, 98]⟩, .string ⟨#[112, 99]⟩, .string ⟨#[112, 100]⟩] 9) _ rfl) rfl ⟨by omega, by omega⟩
  have hz0 : (w.alloc (.cells #[.string ⟨#[112, 97]⟩, .string ⟨#[112, 98]⟩, .string ⟨#[112, 99]⟩, .string ⟨#[112, 100]⟩] 9)).heap.size = w.heap.size + 1 := by simp
  clear hs
  go_enter Tryz.func16, Tryz.ntmps16
  go_wp2_with fail
  generalize w.alloc (.cells #[.string ⟨#[112, 97]⟩, .string ⟨#[112, 98]⟩, .string ⟨#[112, 99]⟩, .string ⟨#[112, 100]⟩] 9) = w0 at *
  have hz1 : w.heap.size < w0.heap.size := by omega
  clear hz0
  go_loopw [3, 11] (fun v i wr => ∃ (k : Nat) (xs : List Fin4) (tag : Nat → Nat) (n' : Nat), k ≤ 4 ∧ i = .int .i64 k ∧ AccI (RFinO 10) 4 57 (Tag w.heap.size tag) (w.heap.size + 1) wr v xs ∧ xs.length ≤ k ∧ Str σ wr n' ∧ n ≤ n' ∧ n' ≤ n + k * 20 ∧ But σ.b w wr ∧ Kept (fun k => k ≠ σ.b ∧ k ≤ w.heap.size) w0 wr) (fun _ i _ => 4 - (intOf i).toNat)
  case atStart => exact ⟨0, [], fun _ => 0, n, by omega, rfl, AccI.nil _ _ _ _ _ _, by simp, hs0, by omega, by omega, hk0, Kept.refl _ _⟩
  case round =>
    clear hs0 hk0
    obtain ⟨k, xs, tag, n', hk, rfl, hacc, hlen, hsr, hn1, hn2, hbr, hk0⟩ := hrel
    obtain ⟨wo, rfl⟩ : ∃ wo : World, wo = wr := ⟨_, rfl⟩
    by_cases hlt2 : k < 4
    · obtain ⟨b0, o0, id, hid, hF0, hcid, hidz, -, -, -⟩ := (hids.keep RStr.ok hk0).atStr (k := k) (by simpa using hlt2)
      cases hid
      rw [Nat.zero_add] at hcid
      have hlr := hsr.lt
      have hsz := hbr.size
      go_wp2_with fail
      refine (flip_any σ n' _ _ hsr (by omega) (by omega) (by omega)).mono ?_
      rintro e w1 ⟨v, n1, rfl, ⟨r, rfl⟩, hn3, hn4, hs1, hb1⟩
      have hacc1 : AccI (RFinO 10) 4 57 (Tag w.heap.size tag) (w.heap.size + 1) w1 u3 xs := hacc.keep (RFinO.ok 10) hb1 (fun i k _ h => by have := h.2; omega) (fun k hk => by have := (hacc.lt k hk).1; omega)
      have hbr1 := hbr.trans hb1
      have hk1 := hk0.trans (hb1.mono fun k h => h.1)
      have hown1 : ∀ k, u3.ownBlock = some k → w.heap.size + 1 ≤ k ∧ k < wo.heap.size := hacc.lt
      have hszo := hb1.size
      clear hacc hbr hk0 hsr hcid hb1
      cases r
      · go_wp2_with fail
        have hl1 := hs1.lt
        refine (some10_any σ n1 _ _ _ [⟨#[79, 110, 32, 116, 114, 101, 101, 115]⟩, ⟨#[79, 110, 32, 114, 111, 111, 116, 115]⟩, ⟨#[79, 102, 32, 195, 169, 108, 97, 110]⟩] _ (hs1.keep (Kept.alloc _ _ _)) (by omega) (Sl.lit_strs _ (heap_at _ _ _ rfl) rfl (by omega)) (by simp) (by simp)).mono ?_
        rintro e w2 ⟨v, n2, rfl, ⟨title, rfl, _, htz⟩, hn5, hn6, hs2, hb2⟩
        have hl2 := hs2.lt
        have hb12 : But σ.b w1 w2 := (Kept.alloc _ _ _).trans hb2
        clear hs1 hb2
        go_wp2_with fail
        refine (pick_any σ n2 _ _ _ [1, 2, 3, 10, 100] _ (hs2.keep (Kept.alloc _ _ _)) (by omega) (Sl.lit_ints _ (heap_at _ _ _ rfl) rfl (by omega)) (by simp) (by simp)).mono ?_
        rintro e w2' ⟨v, n3, rfl, ⟨pages, rfl, hpm⟩, hn7, hn8, hs3, hb3⟩
        have hpg : 1 ≤ pages ∧ pages ≤ 100 := by simp at hpm; omega
        have hb13 : But σ.b w1 w2' := (hb12.then_alloc _).trans hb3
        obtain ⟨hpg1, hpg2⟩ := hpg
        clear hs2 hb3 hb12 hpm
        go_wp2_with fail
        have hlf := hs3.lt
        have hb23 : w1.heap.size ≤ w2'.heap.size := hb13.size
        have hfb := heap_old (.cells #[.string ⟨#[97, 110, 110]⟩, .string ⟨#[98, 111, 98]⟩, .string ⟨#[99, 105, 100]⟩] 9) (heap_at w2' (.cells #[.string id, .string title, .int .i64 pages, .slice none 0 0] 57) _ rfl)
        have hks := Sl.lit_strs (F := fun k => k ≠ σ.b ∧ k ≠ w2'.heap.size ∧ k < w2'.heap.size + 2) [⟨#[97, 110, 110]⟩, ⟨#[98, 111, 98]⟩, ⟨#[99, 105, 100]⟩] (heap_at (w2'.alloc (.cells #[.string id, .string title, .int .i64 pages, .slice none 0 0] 57)) (.cells #[.string ⟨#[97, 110, 110]⟩, .string ⟨#[98, 111, 98]⟩, .string ⟨#[99, 105, 100]⟩] 9) (w2'.heap.size + 1) (by simp)) rfl ⟨by omega, by omega, by omega⟩
        have hs3' := (hs3.keep (Kept.alloc (fun _ => True) w2' (.cells #[.string id, .string title, .int .i64 pages, .slice none 0 0] 57))).keep (Kept.alloc (fun _ => True) _ (.cells #[.string ⟨#[97, 110, 110]⟩, .string ⟨#[98, 111, 98]⟩, .string ⟨#[99, 105, 100]⟩] 9))
        have hb13' : But σ.b w1 ((w2'.alloc (.cells #[.string id, .string title, .int .i64 pages, .slice none 0 0] 57)).alloc (.cells #[.string ⟨#[97, 110, 110]⟩, .string ⟨#[98, 111, 98]⟩, .string ⟨#[99, 105, 100]⟩] 9)) := (hb13.then_alloc _).then_alloc _
        have hsz3 : ((w2'.alloc (.cells #[.string id, .string title, .int .i64 pages, .slice none 0 0] 57)).alloc (.cells #[.string ⟨#[97, 110, 110]⟩, .string ⟨#[98, 111, 98]⟩, .string ⟨#[99, 105, 100]⟩] 9)).heap.size = w2'.heap.size + 2 := by simp
        clear hs3 hb13
        generalize (w2'.alloc (.cells #[.string id, .string title, .int .i64 pages, .slice none 0 0] 57)).alloc (.cells #[.string ⟨#[97, 110, 110]⟩, .string ⟨#[98, 111, 98]⟩, .string ⟨#[99, 105, 100]⟩] 9) = w3 at *
        have hz3a : w2'.heap.size + 2 ≤ w3.heap.size := by omega
        have hz3b : w3.heap.size ≤ w2'.heap.size + 2 := by omega
        clear hsz3
        go_loopw [8, 27] (fun _ c wq => ∃ (j : Nat), j ≤ 3 ∧ c = .int .i64 j ∧ MakingF σ w2'.heap.size id title pages w3 wq n3 (2 * j) j) (fun _ c _ => 3 - (intOf c).toNat)
        case atStart => exact ⟨0, by omega, rfl, _, [], n3, hfb, Acc.nil _ _ _ _ _ _, by simp, hs3', by omega, by omega, Kept.refl _ _⟩
        case round =>
          clear hs3' hfb
          obtain ⟨j, hj, rfl, cv, cs, n4, hblk, hcs, hcl, hs4, hn9, hn10, hk4⟩ := hrel
          obtain ⟨wi, rfl⟩ : ∃ wi : World, wi = wr := ⟨_, rfl⟩
          by_cases hj3 : j < 3
          · obtain ⟨kb, ko, key, hkv, hFk, hck, hkz, -, -, -⟩ := (hks.keep RStr.ok (hk4.mono fun k h => ⟨h.1, h.2.1, by omega⟩)).atStr (k := j) (by simpa using hj3)
            cases hkv
            rw [Nat.zero_add] at hck
            go_wp2_with fail
            refine (flip_any σ n4 _ _ hs4 (by omega) (by omega) (by omega)).mono ?_
            rintro e w5 ⟨v, n5, rfl, ⟨r, rfl⟩, hn11, hn12, hs5, hb5⟩
            obtain ⟨hblk5, hcs5, hk5, -⟩ := MakingF.step (by omega) (by omega) hblk hcs hk4 (Kept.refl _ _) hb5
            clear hs4 hblk hcs hk4 hb5 hck
            cases r
            · go_wp2_with fail
              go_roundw
              case rel => exact ⟨j + 1, by omega, by go_num, cv, cs, n5, hblk5, hcs5, by omega, hs5, by omega, by omega, hk5⟩
              case measure => simp [intOf]; omega
            · have c1 := cell_at (i := 3) hblk5 rfl
              have f1 := frozen_at (i := 3) hblk5
              have hbb5 := World.block_lt_of_cell? w5 _ c1
              have hne1 : cv.ownBlock ≠ some w2'.heap.size := fun e => by have := (hcs5.lt _ e).1; omega
              have hsz5 := hk5.size
              go_wp2_with fail
              go_region_law (first
                | (refine step_append1 RCred.ok _ (by rfl) _ _ 55 (by rfl) w3.heap.size 61 (.agg #[.string ⟨#[]⟩, .string ⟨#[]⟩]) 2 32 undC (by kernel_rfl) rfl (by decide) (fun _ => False) cv cs (by rfl) (hcs6.keepAll RCred.ok (by repeat (first | exact Kept.refl _ _ | refine Kept.then_drew ?_ | refine Kept.then_alloc ?_ _))) ⟨w6.heap.size, 0, none⟩ 1 [.string key, .string name] (by rfl) rfl (World.news_of_block (cs := #[.string key, .string name]) (t := 61) (fr := (0, 0)) (heap_alloc_new w6 _)) (by simp [Value.oneCell']) ⟨key, name⟩ ⟨rfl, hkz, hnz⟩ (by omega) (by decide) (by simp; omega) ?_; intro p7 c7 w7 hacc7 hgrow hat7; have b7 := hgrow_heapF hgrow (Kept.heap (w := w6) (F := fun _ => True) (by repeat (first | exact Kept.refl _ _ | refine Kept.then_drew ?_ | refine Kept.then_alloc ?_ _)) hblk6 trivial) (Ne.symm hne1); have c17 := cell_at (i := 3) b7 rfl; have f17 := frozen_at (i := 3) b7)
                | (go_simp; go_at_call 52; refine (bookName_any σ n5 _ (hs5.keep (by repeat (first | exact Kept.refl _ _ | refine Kept.then_drew ?_ | refine Kept.then_alloc ?_ _))) (by omega)).mono ?_; rintro e w6 ⟨v, n6, rfl, ⟨name, rfl, hnz⟩, hn13, hn14, hs6, hb6⟩; obtain ⟨hblk6, hcs6, hk6, hbut6⟩ := MakingF.step (by omega) (by omega) hblk5 hcs5 hk5 (by repeat (first | exact Kept.refl _ _ | refine Kept.then_drew ?_ | refine Kept.then_alloc ?_ _)) hb6; have c16 := cell_at (i := 3) hblk6 rfl; have hsz6 := hk6.size; have hl6 := World.block_lt_of_cell? w6 _ c16))
              all_goals
                have hmk := Lib.hid (MakingF.grow (l := j + 1) (n := n3) (c := 2 * (j + 1)) (by omega) (by omega) hblk6 hcs6 hs6 hk6 (by repeat (first | exact Kept.refl _ _ | refine Kept.then_drew ?_ | refine Kept.then_alloc ?_ _)) hacc7 hgrow (by omega) (by omega) (by omega))
                clear hgrow hat7 hacc7 hs6 hs5 hcs6 hcs5 hk6 hk5 hb6 hbut6
                go_wp2_with fail
                go_roundw
                case rel => exact ⟨j + 1, by omega, by go_num, hmk.out⟩
                case measure => simp [intOf]; omega
          · have hj4 : j = 3 := by omega
            subst hj4
            obtain ⟨pc, cc, rfl, hcc⟩ := hcs.form
            have c3 := cell_at (i := 3) hblk rfl
            have f3 := frozen_at (i := 3) hblk
            have hlb3 := World.block_lt_of_cell? wi _ c3
            have hszi := hk4.size
            cases hc0 : ((cs.length : Int) == 0) with
            | true =>
              have hm : MakingF σ w2'.heap.size id title pages w3 ((wi.setCell ⟨w2'.heap.size, 3, none⟩ (.slice (some ⟨wi.heap.size, 0, none⟩) 1 1)).alloc (.cells #[.string ⟨#[97, 110, 110]⟩, .string ⟨#[65, 110, 110, 32, 76, 101, 101]⟩] 61)) n3 6 3 := by
                have hrow : Acc RCred 2 61 (fun _ => False) w3.heap.size ((wi.setCell ⟨w2'.heap.size, 3, none⟩ (.slice (some ⟨wi.heap.size, 0, none⟩) 1 1)).alloc (.cells #[.string ⟨#[97, 110, 110]⟩, .string ⟨#[65, 110, 110, 32, 76, 101, 101]⟩] 61)) (.slice (some ⟨wi.heap.size, 0, none⟩) 1 1) [⟨⟨#[97, 110, 110]⟩, ⟨#[65, 110, 110, 32, 76, 101, 101]⟩⟩] :=
                  Acc.row1 (vs := [.string ⟨#[97, 110, 110]⟩, .string ⟨#[65, 110, 110, 32, 76, 101, 101]⟩]) (heap_at _ _ _ (by simp [World.setCell])) rfl hszi ⟨rfl, by decide, by decide⟩
                exact ⟨_, _, n4, heap_old _ (heap_setCell_at _ _ _ _ _ _ _ hblk), hrow, by simp, (hs4.set _ _ (by dsimp only; omega)).keep (Kept.alloc _ _ _), by omega, by omega, (hk4.then_setCell _ _ (by simp)).then_alloc _⟩
              have Hm := Lib.hid hm
              clear hm hcs hk4 hs4 hblk
              go_upto_if 46 with fail
              go_cut [] (fun wx => MakingF σ w2'.heap.size id title pages w3 wx n3 6 3)
              case first =>
                go_wp2_with fail
                go_meet
                exact Hm.out
              case rest =>
                clear Hm c3 f3
                clear cs pc cc n4 hcc hcl hn9 hn10 hc0
                obtain ⟨cv, cs, n4, hblk, hcs, hcl, hs4, hn9, hn10, hk4⟩ := hcut
                obtain ⟨pc, cc, rfl, hcc⟩ := hcs.form
                have c0 := cell_at (i := 0) hblk rfl
                have c1 := cell_at (i := 1) hblk rfl
                have c2 := cell_at (i := 2) hblk rfl
                have c3 := cell_at (i := 3) hblk rfl
                have hszc := hk4.size
                have hb1c : But σ.b w1 wc := hb13'.trans2 hk4 fun i hi hf => ⟨hf, by omega, by omega⟩
                have haccc : AccI (RFinO 10) 4 57 (fun i k => Tag w.heap.size tag i k ∧ k < w1.heap.size) (w.heap.size + 1) wc u3 xs := (hacc1.live (RFinO.ok 10)).keep (RFinO.ok 10) hb1c (fun i k _ h => by have := h.1.2; omega) (fun k hk => by have := (hown1 k hk).1; omega)
                have haccd : AccI (RFinO 10) 4 57 (Tag w.heap.size (retag w1.heap.size xs.length tag)) (w.heap.size + 1) wc u3 xs := haccc.mono (RFinO.ok 10) (fun i k _ h => ⟨by rw [retag_old h.2]; exact h.1.1, h.1.2⟩)
                have hnew : RFinO 10 (fun k => Tag w.heap.size (retag w1.heap.size xs.length tag) xs.length k ∧ u3.ownBlock ≠ some k) wc [.string id, .string title, .int .i64 pages, .slice pc cs.length cc] ⟨id, title, pages, cs⟩ :=
                  ⟨_, rfl, ⟨hidz, htz, by dsimp only; omega, by dsimp only; omega, by dsimp only; omega⟩, hcs.base (by omega), fun k hk => ⟨⟨retag_new (by have := (hcs.lt k hk).1; omega), by have := (hcs.lt k hk).1; omega⟩, fun e => by have := hown1 k e; have := (hcs.lt k hk).1; omega⟩⟩
                have hbutc : But σ.b w wc := hbr1.trans hb1c
                have hk0c : Kept (fun k => k ≠ σ.b ∧ k ≤ w.heap.size) w0 wc := hk1.trans (hb1c.mono fun k h => h.1)
                clear haccc hacc1 hk4 hcs hblk hb1c hb13' hbr1 hk1
                go_wp2_with (at_builtin; refine wp_append1I (RFinO.ok 10) _ rfl _ _ 26 rfl (w.heap.size + 1) 57 (.agg #[.string ⟨#[]⟩, .string ⟨#[]⟩, .int .i64 0, .slice none 0 0]) 4 64 Tryz.underlying26 (by kernel_rfl) rfl (by decide) (Tag w.heap.size (retag w1.heap.size xs.length tag)) u3 xs rfl (haccd.keepAll (RFinO.ok 10) (Kept.alloc _ _ _)) ⟨_, 0, none⟩ 1 [.string id, .string title, .int .i64 pages, .slice pc cs.length cc] rfl rfl (World.news_of_block (cs := #[.string id, .string title, .int .i64 pages, .slice pc cs.length cc]) (heap_alloc_new wc _)) (by simp [Value.oneCell']) ⟨id, title, pages, cs⟩ ((RFinO.ok 10).keep (Kept.alloc _ _ _) hnew) (by omega) (by decide) (by simp; omega) ?_)
                intro p' c' w' hacc' hg hat
                have hbut' : But σ.b w w' := (hbutc.then_alloc _).grown hg (fun k hk => Or.inl (by have := (hown1 k hk).1; omega))
                have hs' : Str σ w' n4 := (hs4.keep (Kept.alloc _ _ _)).kept (F := fun k => k < w.heap.size) ((Kept.refl _ _).grown hg (fun k hk => Or.inr (by have := hown1 k hk; omega))) (fun k hk => by omega)
                have hk0' : Kept (fun k => k ≠ σ.b ∧ k ≤ w.heap.size) w0 w' := (hk0c.then_alloc _).grown hg (fun k hk => Or.inr (by have := (hown1 k hk).1; omega))
                have hlen' : (xs ++ [(⟨id, title, pages, cs⟩ : Fin4)]).length ≤ k + 1 := by simp; omega
                have Hlen := Lib.hid hlen'
                clear hg hat hlen' hnew hbutc haccd hown1 hs4 hk0c
                go_wp2_with fail
                go_roundw
                case rel => exact ⟨k + 1, _, _, n4, by omega, by go_num, hacc', Hlen.out, hs', by omega, by omega, hbut', hk0'⟩
                case measure => simp [intOf]; omega
            | false =>
              have hm : MakingF σ w2'.heap.size id title pages w3 wi n3 6 3 := ⟨_, cs, n4, hblk, hcs, hcl, hs4, by omega, by omega, hk4⟩
              have Hm := Lib.hid hm
              clear hm hcs hk4 hs4 hblk
              go_upto_if 46 with fail
              go_cut [] (fun wx => MakingF σ w2'.heap.size id title pages w3 wx n3 6 3)
              case first =>
                go_wp2_with fail
                go_meet
                exact Hm.out
              case rest =>
                clear Hm c3 f3
                clear cs pc cc n4 hcc hcl hn9 hn10 hc0
                obtain ⟨cv, cs, n4, hblk, hcs, hcl, hs4, hn9, hn10, hk4⟩ := hcut
                obtain ⟨pc, cc, rfl, hcc⟩ := hcs.form
                have c0 := cell_at (i := 0) hblk rfl
                have c1 := cell_at (i := 1) hblk rfl
                have c2 := cell_at (i := 2) hblk rfl
                have c3 := cell_at (i := 3) hblk rfl
                have hszc := hk4.size
                have hb1c : But σ.b w1 wc := hb13'.trans2 hk4 fun i hi hf => ⟨hf, by omega, by omega⟩
                have haccc : AccI (RFinO 10) 4 57 (fun i k => Tag w.heap.size tag i k ∧ k < w1.heap.size) (w.heap.size + 1) wc u3 xs := (hacc1.live (RFinO.ok 10)).keep (RFinO.ok 10) hb1c (fun i k _ h => by have := h.1.2; omega) (fun k hk => by have := (hown1 k hk).1; omega)
                have haccd : AccI (RFinO 10) 4 57 (Tag w.heap.size (retag w1.heap.size xs.length tag)) (w.heap.size + 1) wc u3 xs := haccc.mono (RFinO.ok 10) (fun i k _ h => ⟨by rw [retag_old h.2]; exact h.1.1, h.1.2⟩)
                have hnew : RFinO 10 (fun k => Tag w.heap.size (retag w1.heap.size xs.length tag) xs.length k ∧ u3.ownBlock ≠ some k) wc [.string id, .string title, .int .i64 pages, .slice pc cs.length cc] ⟨id, title, pages, cs⟩ :=
                  ⟨_, rfl, ⟨hidz, htz, by dsimp only; omega, by dsimp only; omega, by dsimp only; omega⟩, hcs.base (by omega), fun k hk => ⟨⟨retag_new (by have := (hcs.lt k hk).1; omega), by have := (hcs.lt k hk).1; omega⟩, fun e => by have := hown1 k e; have := (hcs.lt k hk).1; omega⟩⟩
                have hbutc : But σ.b w wc := hbr1.trans hb1c
                have hk0c : Kept (fun k => k ≠ σ.b ∧ k ≤ w.heap.size) w0 wc := hk1.trans (hb1c.mono fun k h => h.1)
                clear haccc hacc1 hk4 hcs hblk hb1c hb13' hbr1 hk1
                go_wp2_with (at_builtin; refine wp_append1I (RFinO.ok 10) _ rfl _ _ 26 rfl (w.heap.size + 1) 57 (.agg #[.string ⟨#[]⟩, .string ⟨#[]⟩, .int .i64 0, .slice none 0 0]) 4 64 Tryz.underlying26 (by kernel_rfl) rfl (by decide) (Tag w.heap.size (retag w1.heap.size xs.length tag)) u3 xs rfl (haccd.keepAll (RFinO.ok 10) (Kept.alloc _ _ _)) ⟨_, 0, none⟩ 1 [.string id, .string title, .int .i64 pages, .slice pc cs.length cc] rfl rfl (World.news_of_block (cs := #[.string id, .string title, .int .i64 pages, .slice pc cs.length cc]) (heap_alloc_new wc _)) (by simp [Value.oneCell']) ⟨id, title, pages, cs⟩ ((RFinO.ok 10).keep (Kept.alloc _ _ _) hnew) (by omega) (by decide) (by simp; omega) ?_)
                intro p' c' w' hacc' hg hat
                have hbut' : But σ.b w w' := (hbutc.then_alloc _).grown hg (fun k hk => Or.inl (by have := (hown1 k hk).1; omega))
                have hs' : Str σ w' n4 := (hs4.keep (Kept.alloc _ _ _)).kept (F := fun k => k < w.heap.size) ((Kept.refl _ _).grown hg (fun k hk => Or.inr (by have := hown1 k hk; omega))) (fun k hk => by omega)
                have hk0' : Kept (fun k => k ≠ σ.b ∧ k ≤ w.heap.size) w0 w' := (hk0c.then_alloc _).grown hg (fun k hk => Or.inr (by have := (hown1 k hk).1; omega))
                have hlen' : (xs ++ [(⟨id, title, pages, cs⟩ : Fin4)]).length ≤ k + 1 := by simp; omega
                have Hlen := Lib.hid hlen'
                clear hg hat hlen' hnew hbutc haccd hown1 hs4 hk0c
                go_wp2_with fail
                go_roundw
                case rel => exact ⟨k + 1, _, _, n4, by omega, by go_num, hacc', Hlen.out, hs', by omega, by omega, hbut', hk0'⟩
                case measure => simp [intOf]; omega
      · go_wp2_with fail
        go_roundw
        case rel => exact ⟨k + 1, xs, tag, n1, by omega, by go_num, hacc1, by omega, hs1, by omega, by omega, hbr1, hk1⟩
        case measure => simp [intOf]; omega
    · have hk4 : k = 4 := by omega
      subst hk4
      go_wp2_with fail
      go_ret
      exact ⟨_, n', rfl, ⟨xs, tag, hacc.base (by omega), hlen, by omega⟩, by omega, by omega, hsr, hbr⟩
end Go.Proofs.YtbpbhpmkganefaaGreatDoor
