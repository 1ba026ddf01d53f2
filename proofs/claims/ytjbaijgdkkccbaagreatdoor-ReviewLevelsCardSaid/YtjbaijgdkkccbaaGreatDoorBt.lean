/- A setup of the call's own: its rows, and what leaves them as they are. No program in sight. -/
import Derived.Test.YtjbaijgdkkccbaaGreatDoorBr
import Derived.Test.YtjbaijgdkkccbaaGreatDoorZi
import Derived.Test.YtjbaijgdkkccbaaGreatDoorAi
import Derived.Test.YtjbaijgdkkccbaaGreatDoorSr
import Derived.Lib.Repeat
import Derived.Test.YtjbaijgdkkccbaaGreatDoorAw
namespace Go.Proofs.YtjbaijgdkkccbaaGreatDoor
open Go.RowKit

theorem Acc.sep {α β : Type} {R : Rel α} {R' : Rel β} {sz sz' : Nat} {T T' : TypeId} {F F' : Nat → Prop} {B B' : Nat} {w : World} {v v' : Value} {xs : List α} {ys : List β} (h : Acc R sz T F B w v xs) (h' : Acc R' sz' T' F' B' w v' ys) (hne : T' ≠ T) : ∀ k, v.ownBlock = some k → v'.ownBlock ≠ some k := by
  intro k h1 h2
  obtain ⟨cells, ho, -⟩ := h
  rcases ho.2 with ⟨rfl, -⟩ | ⟨g, cap, cur, rfl, -, hg, -⟩
  · cases h1
  · cases h1
    exact h'.notType hg hne _ h2 rfl
/-- Rows of pairs are new since the heap had B2 blocks; what the other rows refer to is older. -/
structure SetAcc (σ : St) (B B1 B2 : Nat) (v0 v1 v2 v3 v4 : Value) (s : Set7) (w : World) : Prop where
  a0 : Acc RQst 6 146 (fun k => k ≠ σ.b ∧ k < B2 ∧ v4.ownBlock ≠ some k) B w v0 s.sheet
  a1 : Acc RPap 5 128 (fun k => k ≠ σ.b ∧ k < B2 ∧ v4.ownBlock ≠ some k) B1 w v1 s.papers
  a2 : Acc RPair 2 39 (fun _ => False) B2 w v2 s.pairs
  a3 : Acc RPair 2 39 (fun _ => False) B2 w v3 s.barred
  a4 : Acc RStr 1 9 (fun _ => False) B w v4 s.chairs
  dis : ∀ k, v2.ownBlock = some k → v3.ownBlock ≠ some k
  hB : σ.b < B
  hB1 : B ≤ B1
  hB2 : B ≤ B2
abbrev setC (v0 v1 v2 v3 v4 : Value) (s : Set7) : Array Value := #[v0, v1, v2, v3, v4, .int .i64 s.due, .int .i64 s.reply]
section
variable {σ : St} {B B1 B2 : Nat} {v0 v1 v2 v3 v4 : Value} {s : Set7} {w w' : World}
theorem SetAcc.keep (h : SetAcc σ B B1 B2 v0 v1 v2 v3 v4 s w) (k : But σ.b w w') : SetAcc σ B B1 B2 v0 v1 v2 v3 v4 s w' := by
  have hB := h.hB
  have hB1 := h.hB1
  have hB2 := h.hB2
  exact ⟨h.a0.keep RQst.ok k (fun _ h => h.1) (fun j hj => by have := (h.a0.lt j hj).1; omega), h.a1.keep RPap.ok k (fun _ h => h.1) (fun j hj => by have := (h.a1.lt j hj).1; omega),
    h.a2.keep RPair.ok k (fun _ h => h.elim) (fun j hj => by have := (h.a2.lt j hj).1; omega), h.a3.keep RPair.ok k (fun _ h => h.elim) (fun j hj => by have := (h.a3.lt j hj).1; omega), h.a4.keep RStr.ok k (fun _ h => h.elim) (fun j hj => by have := (h.a4.lt j hj).1; omega), h.dis, hB, hB1, hB2⟩
/-- A store into a block of another type that holds no strings. -/
theorem SetAcc.past (h : SetAcc σ B B1 B2 v0 v1 v2 v3 v4 s w) {b : Nat} {c : Array Value} {t : TypeId} {fz : Nat × Nat} (hb : w.heap[b]? = some (.cells c t fz)) (hn : NoStr w b) (k : Kept (fun k => k ≠ b) w w')
    (h1 : 146 ≠ t) (h2 : 128 ≠ t) (h3 : 39 ≠ t) (h4 : 9 ≠ t) : SetAcc σ B B1 B2 v0 v1 v2 v3 v4 s w' :=
  ⟨h.a0.past RQst.isOff RQst.ok hn (h.a0.notType hb h1) k, h.a1.past RPap.isOff RPap.ok hn (h.a1.notType hb h2) k, h.a2.past RPair.isOff RPair.ok hn (h.a2.notType hb h3) k, h.a3.past RPair.isOff RPair.ok hn (h.a3.notType hb h3) k, h.a4.past RStr.isOff RStr.ok hn (h.a4.notType hb h4) k, h.dis, h.hB, h.hB1, h.hB2⟩
/-- Behind an append to the pairs. -/
theorem SetAcc.grow2 (h : SetAcc σ B B1 B2 v0 v1 v2 v3 v4 s w) {W w9 : World} {v2' : Value} {ps : List Pair2} (hW : All w W) (hg : W.grownBy w9 v2.ownBlock) (hat : v2'.ownBlock = v2.ownBlock ∨ v2'.ownBlock = some W.heap.size)
    (hacc : Acc RPair 2 39 (fun _ => False) B2 w9 v2' ps) : SetAcc σ B B1 B2 v0 v1 v2' v3 v4 ⟨s.sheet, s.papers, ps, s.barred, s.chairs, s.due, s.reply⟩ w9 := by
  have hB := h.hB
  have hB1 := h.hB1
  have hB2 := h.hB2
  have hk : Kept (fun k => v2.ownBlock ≠ some k) w w9 := (hW.all).grown hg (fun k hk => Or.inr (fun h => h hk))
  have hlt := h.a2.lt
  exact ⟨h.a0.keep RQst.ok hk (fun k hk e => by have := (hlt k e).1; omega) (h.a0.sep h.a2 (by decide)), h.a1.keep RPap.ok hk (fun k hk e => by have := (hlt k e).1; omega) (h.a1.sep h.a2 (by decide)), hacc,
    h.a3.keep RPair.ok hk (fun _ h => h.elim) (fun k hk e => h.dis k e hk), h.a4.keep RStr.ok hk (fun _ h => h.elim) (h.a4.sep h.a2 (by decide)),
    fun k h1 h2 => by
      rcases hat with e | e
      · exact h.dis k (e ▸ h1) h2
      · rw [e] at h1; have := (h.a3.lt k h2).2; have := hW.size; have := Option.some.inj h1; omega, hB, hB1, hB2⟩
theorem SetAcc.grow3 (h : SetAcc σ B B1 B2 v0 v1 v2 v3 v4 s w) {W w9 : World} {v3' : Value} {ps : List Pair2} (hW : All w W) (hg : W.grownBy w9 v3.ownBlock) (hat : v3'.ownBlock = v3.ownBlock ∨ v3'.ownBlock = some W.heap.size)
    (hacc : Acc RPair 2 39 (fun _ => False) B2 w9 v3' ps) : SetAcc σ B B1 B2 v0 v1 v2 v3' v4 ⟨s.sheet, s.papers, s.pairs, ps, s.chairs, s.due, s.reply⟩ w9 := by
  have hB := h.hB
  have hB1 := h.hB1
  have hB2 := h.hB2
  have hk : Kept (fun k => v3.ownBlock ≠ some k) w w9 := (hW.all).grown hg (fun k hk => Or.inr (fun h => h hk))
  have hlt := h.a3.lt
  exact ⟨h.a0.keep RQst.ok hk (fun k hk e => by have := (hlt k e).1; omega) (h.a0.sep h.a3 (by decide)), h.a1.keep RPap.ok hk (fun k hk e => by have := (hlt k e).1; omega) (h.a1.sep h.a3 (by decide)),
    h.a2.keep RPair.ok hk (fun _ h => h.elim) (fun k hk e => h.dis k hk e), hacc, h.a4.keep RStr.ok hk (fun _ h => h.elim) (h.a4.sep h.a3 (by decide)),
    fun k h1 h2 => by
      rcases hat with e | e
      · exact h.dis k h1 (e ▸ h2)
      · rw [e] at h2; have := (h.a2.lt k h1).2; have := hW.size; have := Option.some.inj h2; omega, hB, hB1, hB2⟩
/-- Behind an append to the papers, or another row of them. -/
theorem SetAcc.grow1 (h : SetAcc σ B B1 B2 v0 v1 v2 v3 v4 s w) {W w9 : World} {v1' : Value} {ps : List Pap} (h12 : B2 ≤ B1) (hW : All w W) (hg : W.grownBy w9 v1.ownBlock)
    (hacc : Acc RPap 5 128 (fun k => k ≠ σ.b ∧ k < B2 ∧ v4.ownBlock ≠ some k) B1 w9 v1' ps) : SetAcc σ B B1 B2 v0 v1' v2 v3 v4 ⟨s.sheet, ps, s.pairs, s.barred, s.chairs, s.due, s.reply⟩ w9 := by
  have hB := h.hB
  have hB1 := h.hB1
  have hB2 := h.hB2
  have hk : Kept (fun k => v1.ownBlock ≠ some k) w w9 := (hW.all).grown hg (fun k hk => Or.inr (fun h => h hk))
  have hlt := h.a1.lt
  exact ⟨h.a0.keep RQst.ok hk (fun k hk e => by have := (hlt k e).1; omega) (h.a0.sep h.a1 (by decide)), hacc,
    h.a2.keep RPair.ok hk (fun _ h => h.elim) (h.a2.sep h.a1 (by decide)), h.a3.keep RPair.ok hk (fun _ h => h.elim) (h.a3.sep h.a1 (by decide)), h.a4.keep RStr.ok hk (fun _ h => h.elim) (h.a4.sep h.a1 (by decide)), h.dis, hB, hB1, hB2⟩
/-- No papers. -/
theorem SetAcc.none1 (h : SetAcc σ B B1 B2 v0 v1 v2 v3 v4 s w) : SetAcc σ B B1 B2 v0 (.slice none 0 0) v2 v3 v4 ⟨s.sheet, [], s.pairs, s.barred, s.chairs, s.due, s.reply⟩ w :=
  ⟨h.a0, Acc.nil _ _ _ _ _ _, h.a2, h.a3, h.a4, h.dis, h.hB, h.hB1, h.hB2⟩
/-- No pairs yet: a later start of their rows. -/
theorem SetAcc.rebase {s0 : List Qst} {ps : List Pap} {cs : List ByteArray} {du rp : Int} (h : SetAcc σ B B1 B2 v0 v1 (.slice none 0 0) (.slice none 0 0) v4 ⟨s0, ps, [], [], cs, du, rp⟩ w) {C : Nat} (hC : B2 ≤ C) : SetAcc σ B B1 C v0 v1 (.slice none 0 0) (.slice none 0 0) v4 ⟨s0, ps, [], [], cs, du, rp⟩ w := by
  have hB2 := h.hB2
  exact ⟨h.a0.mono RQst.ok (fun k hk => ⟨hk.1, by omega, hk.2.2⟩), h.a1.mono RPap.ok (fun k hk => ⟨hk.1, by omega, hk.2.2⟩), Acc.nil _ _ _ _ _ _, Acc.nil _ _ _ _ _ _, h.a4, (fun _ h => by cases h), h.hB, h.hB1, by omega⟩
/-- A slice of one written out. -/
theorem Sl.one {α : Type} {R : Rel α} {sz : Nat} {F : Nat → Prop} {w : World} {b : Nat} {vs : List Value} {T : TypeId} {fz : Nat × Nat} {x : α} (hb : w.heap[b]? = some (.cells vs.toArray T fz)) (hl : vs.length = sz) (hF : F b) (hx : R F w vs x) : Sl R sz F w (some ⟨b, 0, none⟩) 1 [x] := by
  refine ⟨rfl, fun _ => ⟨b, 0, rfl, hF, fun i hi => ⟨vs, hl, fun j hj => ?_, ?_⟩⟩⟩
  · have h0 : i = 0 := by simpa using hi
    subst h0
    have := cell_at (i := j) (v := vs[j]) hb (by simp [hj])
    simpa using this
  · have h0 : i = 0 := by simpa using hi
    subst h0
    exact hx
/-- As a setup is read. -/
theorem SetAcc.is (h : SetAcc σ B B1 B2 v0 v1 v2 v3 v4 s w) (h0 : s.sheet.length ≤ 1000) (h1 : s.papers.length ≤ 1000) (h2 : s.pairs.length ≤ 1000000) (h3 : s.barred.length ≤ 1000000) (h4 : s.chairs.length ≤ 1000000) :
    ∃ a0 c0 a1 c1 a2 c2 a3 c3 a4 c4, v0 = .slice a0 s.sheet.length c0 ∧ v1 = .slice a1 s.papers.length c1 ∧ v2 = .slice a2 s.pairs.length c2 ∧ v3 = .slice a3 s.barred.length c3 ∧ v4 = .slice a4 s.chairs.length c4 ∧
      SetIs (fun k => k ≠ σ.b) w a0 s.sheet.length a1 s.papers.length a2 s.pairs.length a3 s.barred.length a4 s.chairs.length s := by
  have hB := h.hB
  have hB1 := h.hB1
  have hB2 := h.hB2
  obtain ⟨a0, c0, e0, g0⟩ := h.a0.sl RQst.ok (by decide) (G := fun k => k ≠ σ.b) (fun _ h => h.1) (fun j hj => by have := (h.a0.lt j hj).1; omega)
  obtain ⟨a1, c1, e1, g1⟩ := h.a1.sl RPap.ok (by decide) (G := fun k => k ≠ σ.b) (fun _ h => h.1) (fun j hj => by have := (h.a1.lt j hj).1; omega)
  obtain ⟨a2, c2, e2, g2⟩ := h.a2.sl RPair.ok (by decide) (G := fun k => k ≠ σ.b) (fun _ h => h.elim) (fun j hj => by have := (h.a2.lt j hj).1; omega)
  obtain ⟨a3, c3, e3, g3⟩ := h.a3.sl RPair.ok (by decide) (G := fun k => k ≠ σ.b) (fun _ h => h.elim) (fun j hj => by have := (h.a3.lt j hj).1; omega)
  obtain ⟨a4, c4, e4, g4⟩ := h.a4.sl RStr.ok (by decide) (G := fun k => k ≠ σ.b) (fun _ h => h.elim) (fun j hj => by have := (h.a4.lt j hj).1; omega)
  exact ⟨a0, c0, a1, c1, a2, c2, a3, c3, a4, c4, e0, e1, e2, e3, e4, g0, g1, g2, g3, g4, h0, h1, h2, h3, h4⟩
end
/-- A setup of the call's own, whose rows may grow. -/
def PSetR (σ : St) (B : Nat) (v : Value) (w : World) : Prop := ∃ (v0 v1 v2 v3 v4 : Value) (s : Set7) (B1 B2 : Nat), v = .agg (setC v0 v1 v2 v3 v4 s) ∧ SetAcc σ B B1 B2 v0 v1 v2 v3 v4 s w ∧ B2 ≤ w.heap.size ∧ s.sheet.length ≤ 5 ∧ s.papers.length ≤ 3 ∧ s.pairs.length ≤ 12 ∧ s.barred.length ≤ 12 ∧ s.chairs.length ≤ 2
/-- A setup as it is read. -/
def PSet (σ : St) (v : Value) (w : World) : Prop := ∃ (a0 a1 a2 a3 a4 : Option Addr) (c0 c1 c2 c3 c4 : Nat) (s : Set7),
  v = .agg (setC (.slice a0 s.sheet.length c0) (.slice a1 s.papers.length c1) (.slice a2 s.pairs.length c2) (.slice a3 s.barred.length c3) (.slice a4 s.chairs.length c4) s) ∧
  SetIs (fun k => k ≠ σ.b) w a0 s.sheet.length a1 s.papers.length a2 s.pairs.length a3 s.barred.length a4 s.chairs.length s ∧ s.sheet.length ≤ 30 ∧ s.papers.length ≤ 30 ∧ s.pairs.length ≤ 30 ∧ s.barred.length ≤ 30 ∧ s.chairs.length ≤ 30
end Go.Proofs.YtjbaijgdkkccbaaGreatDoor

/- The generator PapersOf10. -/
namespace Go.Proofs.YtjbaijgdkkccbaaGreatDoor
open Go.RowKit

theorem repeatB_any (s : ByteArray) (c : Nat) (w : World) (hc : s.size * c ≤ 1000000) (hc2 : c ≤ 1000000) :
    Calls Tryz.prog 207 #[.string s, .int .i64 c] w fun e w' => ∃ t : ByteArray, e = .returned (.string t) ∧ t.size = c * s.size ∧ All w w' := by
  refine (Tryz.strings_Repeat s c w (by omega) (by omega)).mono ?_
  rintro e w' ⟨rfl, hb⟩
  refine ⟨_, rfl, ?_, Kept.of_below hb⟩
  have h := Lib.repeatL_length s.data.toList c
  have h2 : s.data.toList.length = s.size := by rw [Array.length_toList]; rfl
  show (Lib.repeatL s.data.toList c).toArray.size = _
  rw [List.size_toArray, h, h2]

/-- A literal of strings of the call's own. -/
theorem Acc.lits {F : Nat → Prop} {B : Nat} {w : World} {b : Nat} {ss : List ByteArray} {c : Array Value} (hb : w.heap[b]? = some (.cells c 9 (0, 0))) (hc : c = (ss.map Value.string).toArray) (hB : B ≤ b) (hm : ss.length ≤ 1000000) (hz : ∀ s ∈ ss, s.size ≤ 1000000) :
    Acc RStr 1 9 F B w (.slice (some ⟨b, 0, none⟩) ss.length ss.length) ss := by
  subst hc
  refine ⟨ss.map Value.string, ⟨by simp, .inr ⟨b, ss.length, _, rfl, hB, hb, Nat.le_refl _, by unfold maxLen; omega, by simp, ?_⟩⟩, fun i hi => ⟨?_, hz _ (List.getElem_mem hi)⟩⟩
  · rw [List.take_of_length_le (by simp)]
  · have hi' : i < (ss.map Value.string).length := by simpa using hi
    rw [Nat.mul_one, List.drop_eq_getElem_cons hi', List.take_succ_cons, List.take_zero, List.getElem_map]

/-- A paper is being made in block pb; its rows are new since wo. -/
structure MkP (σ : St) (pb : Nat) (wo : World) (id track title : ByteArray) (av tv : Value) (au tp : List ByteArray) (wx : World) (n : Nat) : Prop where
  blk : wx.heap[pb]? = some (.cells #[.string id, .string track, .string title, av, tv] 128 (0, 0))
  z0 : id.size ≤ 1000000
  z1 : track.size ≤ 1000000
  z2 : title.size ≤ 1000000
  a : Acc RStr 1 9 (fun _ => False) wo.heap.size wx av au
  t : Acc RStr 1 9 (fun _ => False) wo.heap.size wx tv tp
  dis : ∀ k, av.ownBlock = some k → tv.ownBlock ≠ some k
  st : Str σ wx n
  bt : But σ.b wo wx
  hs : σ.b < wo.heap.size
  hp : wo.heap.size ≤ pb
section
variable {σ : St} {pb : Nat} {wo wx W w9 : World} {id track title : ByteArray} {av tv : Value} {au tp : List ByteArray} {n : Nat}
theorem MkP.pbl (h : MkP σ pb wo id track title av tv au tp wx n) : pb < wx.heap.size := (Array.getElem?_eq_some_iff.1 h.blk).1
theorem MkP.keep (h : MkP σ pb wo id track title av tv au tp wx n) {m : Nat} (k : But σ.b wx W) (hs : Str σ W m) : MkP σ pb wo id track title av tv au tp W m := by
  have h1 := h.hs
  have h2 := h.hp
  exact ⟨k.heap h.blk (by omega), h.z0, h.z1, h.z2, h.a.keep RStr.ok k (fun _ h => h.elim) (fun j hj => by have := (h.a.lt j hj).1; omega), h.t.keep RStr.ok k (fun _ h => h.elim) (fun j hj => by have := (h.t.lt j hj).1; omega), h.dis, hs, h.bt.trans k, h1, h2⟩
theorem MkP.new (h : MkP σ pb wo id track title av tv au tp wx n) (k : All wx W) : MkP σ pb wo id track title av tv au tp W n := h.keep k.all (h.st.keep k)
/-- A store into a cell of the paper. -/
theorem MkP.put (h : MkP σ pb wo id track title av tv au tp wx n) (i : Nat) (u : Value) {id' track' title' : ByteArray} {av' tv' : Value} {au' tp' : List ByteArray}
    (hc : (#[.string id, .string track, .string title, av, tv] : Array Value).setIfInBounds i u = #[.string id', .string track', .string title', av', tv']) (z0 : id'.size ≤ 1000000) (z1 : track'.size ≤ 1000000) (z2 : title'.size ≤ 1000000)
    (ha : Acc RStr 1 9 (fun _ => False) wo.heap.size wx av' au') (ht : Acc RStr 1 9 (fun _ => False) wo.heap.size wx tv' tp') (hd : ∀ k, av'.ownBlock = some k → tv'.ownBlock ≠ some k) :
    MkP σ pb wo id' track' title' av' tv' au' tp' (wx.setCell ⟨pb, i, none⟩ u) n := by
  have h1 := h.hs
  have h2 := h.hp
  have k : Kept (fun k => k ≠ pb) wx (wx.setCell ⟨pb, i, none⟩ u) := Kept.setCell _ _ _ (fun h => h rfl)
  refine ⟨?_, z0, z1, z2, ha.keep RStr.ok k (fun _ h => h.elim) (ha.notType h.blk (by decide)), ht.keep RStr.ok k (fun _ h => h.elim) (ht.notType h.blk (by decide)), hd, h.st.set _ _ (by dsimp only; omega), h.bt.then_setNew _ _ (by dsimp only; omega), h1, h2⟩
  rw [← hc]
  exact heap_setCell_at _ _ _ _ _ _ _ h.blk
/-- Behind an append to the authors, ahead of its store. -/
theorem MkP.growA (h : MkP σ pb wo id track title av tv au tp wx n) {av' : Value} {au' : List ByteArray} (hW : All wx W) (hg : W.grownBy w9 av.ownBlock) (hat : av'.ownBlock = av.ownBlock ∨ av'.ownBlock = some W.heap.size)
    (hacc : Acc RStr 1 9 (fun _ => False) wo.heap.size w9 av' au') : MkP σ pb wo id track title av' tv au' tp (w9.setCell ⟨pb, 3, none⟩ av') n := by
  have h1 := h.hs
  have h2 := h.hp
  have h3 := h.pbl
  have hk : Kept (fun k => av.ownBlock ≠ some k) wx w9 := (hW.all).grown hg (fun k hk => Or.inr (fun h => h hk))
  have hne : av.ownBlock ≠ some pb := fun e => h.a.notType h.blk (by decide) pb e rfl
  have hm : MkP σ pb wo id track title av tv au tp wx n := h
  have hst : Str σ w9 n := h.st.kept hk (fun k hk e => by have := (h.a.lt k e).1; omega)
  have hbt : But σ.b wo w9 := h.bt.trans2 hk (fun k hk _ e => by have := (h.a.lt k e).1; omega)
  have hb9 := hk.heap h.blk hne
  have ht9 := h.t.keep RStr.ok hk (fun _ h => h.elim) (fun k hk e => h.dis k e hk)
  have k2 : Kept (fun k => k ≠ pb) w9 (w9.setCell ⟨pb, 3, none⟩ av') := Kept.setCell _ _ _ (fun h => h rfl)
  refine ⟨?_, h.z0, h.z1, h.z2, hacc.keep RStr.ok k2 (fun _ h => h.elim) (hacc.notType hb9 (by decide)), ht9.keep RStr.ok k2 (fun _ h => h.elim) (ht9.notType hb9 (by decide)), fun k e1 e2 => ?_, hst.set _ _ (by dsimp only; omega), hbt.then_setNew _ _ (by dsimp only; omega), h1, h2⟩
  · have := heap_setCell_at w9 pb 3 av' _ _ _ hb9
    simpa using this
  · rcases hat with e | e
    · exact h.dis k (e ▸ e1) e2
    · rw [e] at e1; have := Option.some.inj e1; have := (h.t.lt k e2).2; have := hW.size; omega
theorem MkP.growT (h : MkP σ pb wo id track title av tv au tp wx n) {tv' : Value} {tp' : List ByteArray} (hW : All wx W) (hg : W.grownBy w9 tv.ownBlock) (hat : tv'.ownBlock = tv.ownBlock ∨ tv'.ownBlock = some W.heap.size)
    (hacc : Acc RStr 1 9 (fun _ => False) wo.heap.size w9 tv' tp') : MkP σ pb wo id track title av tv' au tp' (w9.setCell ⟨pb, 4, none⟩ tv') n := by
  have h1 := h.hs
  have h2 := h.hp
  have h3 := h.pbl
  have hk : Kept (fun k => tv.ownBlock ≠ some k) wx w9 := (hW.all).grown hg (fun k hk => Or.inr (fun h => h hk))
  have hne : tv.ownBlock ≠ some pb := fun e => h.t.notType h.blk (by decide) pb e rfl
  have hst : Str σ w9 n := h.st.kept hk (fun k hk e => by have := (h.t.lt k e).1; omega)
  have hbt : But σ.b wo w9 := h.bt.trans2 hk (fun k hk _ e => by have := (h.t.lt k e).1; omega)
  have hb9 := hk.heap h.blk hne
  have ha9 := h.a.keep RStr.ok hk (fun _ h => h.elim) (fun k hk e => h.dis k hk e)
  have k2 : Kept (fun k => k ≠ pb) w9 (w9.setCell ⟨pb, 4, none⟩ tv') := Kept.setCell _ _ _ (fun h => h rfl)
  refine ⟨?_, h.z0, h.z1, h.z2, ha9.keep RStr.ok k2 (fun _ h => h.elim) (ha9.notType hb9 (by decide)), hacc.keep RStr.ok k2 (fun _ h => h.elim) (hacc.notType hb9 (by decide)), fun k e1 e2 => ?_, hst.set _ _ (by dsimp only; omega), hbt.then_setNew _ _ (by dsimp only; omega), h1, h2⟩
  · have := heap_setCell_at w9 pb 4 tv' _ _ _ hb9
    simpa using this
  · rcases hat with e | e
    · exact h.dis k e1 (e ▸ e2)
    · rw [e] at e2; have := Option.some.inj e2; have := (h.a.lt k e1).2; have := hW.size; omega
/-- Behind slices.Reverse of the authors. -/
theorem MkP.rev (h : MkP σ pb wo id track title av tv au tp wx n) {ys : List ByteArray} (hk : Kept (fun k => av.ownBlock ≠ some k) wx W) (hacc : Acc RStr 1 9 (fun _ => False) wo.heap.size W av ys) : MkP σ pb wo id track title av tv ys tp W n := by
  have h1 := h.hs
  have h2 := h.hp
  exact ⟨hk.heap h.blk (fun e => h.a.notType h.blk (by decide) pb e rfl), h.z0, h.z1, h.z2, hacc, h.t.keep RStr.ok hk (fun _ h => h.elim) (fun k hk e => h.dis k e hk), h.dis, h.st.kept hk (fun k hk e => by have := (h.a.lt k e).1; omega), h.bt.trans2 hk (fun k hk _ e => by have := (h.a.lt k e).1; omega), h1, h2⟩
end
/-- Some paper is being made in block pb. -/
def MadeP (σ : St) (pb : Nat) (wo wx : World) (n c la : Nat) : Prop := ∃ (id track title : ByteArray) (av tv : Value) (au tp : List ByteArray) (n' : Nat), MkP σ pb wo id track title av tv au tp wx n' ∧ au.length ≤ la ∧ tp.length ≤ la ∧ n ≤ n' ∧ n' ≤ n + c
def MadeX (σ : St) (pb : Nat) (wo wx : World) (n c la X : Nat) : Prop := ∃ (id track title : ByteArray) (av tv : Value) (au tp : List ByteArray) (n' : Nat), MkP σ pb wo id track title av tv au tp wx n' ∧ au.length ≤ la ∧ tp.length ≤ 2 ∧ n ≤ n' ∧ n' ≤ n + c ∧ ∀ k, av.ownBlock = some k → k ≠ X
/-- Papers of the call's own. -/
def PPaps (B hi : Nat) (v : Value) (w : World) : Prop := ∃ ps : List Pap, ps.length ≤ hi ∧ Acc RPap 5 128 (fun k => B ≤ k) B w v ps
theorem PPaps.keep {σ : St} {B hi : Nat} {v : Value} {w w' : World} (h : PPaps B hi v w) (hB : σ.b < B) (k : But σ.b w w') : PPaps B hi v w' := by
  obtain ⟨ys, h1, h3⟩ := h
  exact ⟨ys, h1, h3.keep RPap.ok k (fun k hk => by omega) (fun j hj => by have := (h3.lt j hj).1; omega)⟩

set_option maxRecDepth 100000 in
set_option maxHeartbeats 12800000 in
theorem papersOf10_any (σ : St) (n0 : Nat) (w0 : World) (hs0 : Str σ w0 n0) (hn : n0 ≤ 4611686018427370000) :
    Calls Tryz.prog 139 #[.pointer (some ⟨σ.b, 0, none⟩), .int .i64 3] w0 (StPost σ n0 120 w0 (PPaps w0.heap.size 3)) := by
  have hl0 := hs0.lt
  go_enter Tryz.func139, Tryz.ntmps139
  have hk0 : But σ.b w0 (w0.alloc (.cells #[.string ⟨#[112, 97]⟩, .string ⟨#[112, 98]⟩, .string ⟨#[112, 99]⟩, .string ⟨#[112, 100]⟩, .string ⟨#[112, 101]⟩, .string ⟨#[112, 102]⟩] 9)) := Kept.alloc _ _ _
  have hids := heap_at w0 (.cells #[.string ⟨#[112, 97]⟩, .string ⟨#[112, 98]⟩, .string ⟨#[112, 99]⟩, .string ⟨#[112, 100]⟩, .string ⟨#[112, 101]⟩, .string ⟨#[112, 102]⟩] 9) _ rfl
  have hs1 := hs0.keep (Kept.alloc (fun _ => True) w0 (.cells #[.string ⟨#[112, 97]⟩, .string ⟨#[112, 98]⟩, .string ⟨#[112, 99]⟩, .string ⟨#[112, 100]⟩, .string ⟨#[112, 101]⟩, .string ⟨#[112, 102]⟩] 9))
  go_upto_region 3 with fail
  generalize hw1 : w0.alloc (.cells #[.string ⟨#[112, 97]⟩, .string ⟨#[112, 98]⟩, .string ⟨#[112, 99]⟩, .string ⟨#[112, 100]⟩, .string ⟨#[112, 101]⟩, .string ⟨#[112, 102]⟩] 9) = w1 at *
  have hib : w0.heap.size < w1.heap.size := by rw [← hw1]; simp
  clear hw1
  obtain ⟨ib, hibe⟩ : ∃ b, b = w0.heap.size := ⟨_, rfl⟩
  have HIB := Lib.hid hibe
  rw [← hibe] at hids hib ⊢
  have hsi : σ.b < ib := by omega
  clear hibe
  go_loopw [5, 16] (fun o i wr => ∃ k : Nat, k ≤ 3 ∧ i = .int .i64 k ∧ ∃ (ps : List Pap) (n' : Nat), ps.length ≤ k ∧ Acc RPap 5 128 (fun j => ib ≤ j) ib wr o ps ∧ Str σ wr n' ∧ n0 ≤ n' ∧ n' ≤ n0 + 30 * k ∧ But σ.b w0 wr ∧ wr.heap[ib]? = some (.cells #[.string ⟨#[112, 97]⟩, .string ⟨#[112, 98]⟩, .string ⟨#[112, 99]⟩, .string ⟨#[112, 100]⟩, .string ⟨#[112, 101]⟩, .string ⟨#[112, 102]⟩] 9 (0, 0))) (fun _ i _ => 3 - (intOf i).toNat)
  case atStart => exact ⟨0, Nat.zero_le _, rfl, [], n0, Nat.le_refl _, Acc.nil _ _ _ _ _ _, hs1, Nat.le_refl _, by omega, hk0, hids⟩
  case round =>
    clear hs0 hs1 hk0 hids hib
    obtain ⟨k, hk, rfl, ps, n1, hpl, aco, hso, hn1, hn2, hwo, hids⟩ := hrel
    obtain ⟨wo, rfl⟩ : ∃ wo : World, wo = wr := ⟨_, rfl⟩
    obtain ⟨pv, pc, rfl, -⟩ := aco.form
    obtain ⟨q, hq⟩ : ∃ q, q = ps.length := ⟨_, rfl⟩
    have HQ := Lib.hid hq
    rw [← hq] at aco hpl ⊢
    clear hq
    have hlo := hso.lt
    by_cases hlt : k < 3
    case neg =>
      have hdk : decide ((k : Int) < 3) = false := by simp; omega
      have hfin := Lib.hid (show PPaps w0.heap.size 3 (.slice pv q pc) wo from ⟨ps, by have := HQ.out; omega, by rw [← HIB.out]; exact aco⟩)
      have hbt := Lib.hid hwo
      clear aco hwo hids
      go_wp2_with fail
      go_ret
      exact ⟨_, n1, rfl, hfin.out, by omega, by omega, hso, hbt.out⟩
    case pos =>
      obtain ⟨idv, hidc, hidz⟩ : ∃ s : ByteArray, wo.cell? ⟨ib, k, none⟩ = some (.string s) ∧ s.size ≤ 1000000 := by
        have h3 : k = 0 ∨ k = 1 ∨ k = 2 := by omega
        rcases h3 with rfl | rfl | rfl
        · exact ⟨_, cell_at (i := 0) hids rfl, by decide⟩
        · exact ⟨_, cell_at (i := 1) hids rfl, by decide⟩
        · exact ⟨_, cell_at (i := 2) hids rfl, by decide⟩
      have hk3 : (k : Int) < 3 := by omega
      have HI := Lib.hid hids
      clear hids
      have HAC := Lib.hid aco
      clear aco
      have hibo : ib < wo.heap.size := by have := (Array.getElem?_eq_some_iff.1 HI.out).1; omega
      have hwoz := hwo.size
      go_wp2_with fail
      refine (some10_any σ n1 _ 3 3 [⟨#[109, 97, 105, 110]⟩, ⟨#[109, 97, 105, 110]⟩, ⟨#[100, 101, 109, 111]⟩] _ (hso.keep (Kept.alloc _ _ _)) (by omega) (Sl.lit_strs _ (heap_at wo _ _ rfl) rfl (by omega)) (by omega) (by omega)).mono ?_
      rintro e w2 ⟨v, n2, rfl, ⟨trk, rfl, -, hz1⟩, hA2, hB2, hs2, hb2'⟩
      have hb2 : But σ.b wo w2 := (Kept.alloc _ _ _).trans hb2'
      clear hb2'
      have hl2 := hs2.lt
      go_wp2_with fail
      refine (some10_any σ n2 _ 3 3 [⟨#[79, 110, 32, 116, 114, 101, 101, 115]⟩, ⟨#[65, 32, 116, 105, 116, 108, 101]⟩, ⟨#[82, 111, 111, 116, 115]⟩] _ (hs2.keep (Kept.alloc _ _ _)) (by omega) (Sl.lit_strs _ (heap_at w2 _ _ rfl) rfl (by omega)) (by omega) (by omega)).mono ?_
      rintro e w3 ⟨v, n3, rfl, ⟨ttl, rfl, -, hz2⟩, hA3, hB3, hs3, hb3'⟩
      have hb3 : But σ.b wo w3 := (hb2.then_alloc _).trans hb3'
      clear hb3' hb2 hs2
      have hl3 := hs3.lt
      have hx0 := heap_old (.cells #[.slice none 0 0, .slice (some ⟨w3.heap.size, 0, none⟩) 1 1, .slice (some ⟨w3.heap.size + 1, 0, none⟩) 2 2] 29) (heap_old (.cells #[.string ⟨#[97, 105]⟩, .string ⟨#[100, 98]⟩] 9) (heap_at w3 (.cells #[.string ⟨#[97, 105]⟩] 9) _ rfl))
      have hx1 := heap_old (.cells #[.slice none 0 0, .slice (some ⟨w3.heap.size, 0, none⟩) 1 1, .slice (some ⟨w3.heap.size + 1, 0, none⟩) 2 2] 29) (heap_at (w3.alloc (.cells #[.string ⟨#[97, 105]⟩] 9)) (.cells #[.string ⟨#[97, 105]⟩, .string ⟨#[100, 98]⟩] 9) (w3.heap.size + 1) (by simp))
      have hx2 := heap_at ((w3.alloc (.cells #[.string ⟨#[97, 105]⟩] 9)).alloc (.cells #[.string ⟨#[97, 105]⟩, .string ⟨#[100, 98]⟩] 9)) (.cells #[.slice none 0 0, .slice (some ⟨w3.heap.size, 0, none⟩) 1 1, .slice (some ⟨w3.heap.size + 1, 0, none⟩) 2 2] 29) (w3.heap.size + 1 + 1) (by simp)
      have hz30 := hb3.size
      go_wp2_with fail
      refine (next_any σ n3 3 _ (hs3.keep (((Kept.alloc _ _ _).then_alloc _).then_alloc _)) (by omega) (by omega) (by omega)).mono ?_
      rintro e w4 ⟨v, n4, rfl, ⟨r, rfl, hr1, hr2⟩, hA4, hB4, hs4, hb4'⟩
      obtain ⟨ti, rfl⟩ := Int.eq_ofNat_of_zero_le hr1
      have hti : ti < 3 := by omega
      have hb4 : But σ.b wo w4 := (((hb3.then_alloc _).then_alloc _).then_alloc _).trans hb4'
      replace hx0 := hb4'.heap hx0 (by omega)
      replace hx1 := hb4'.heap hx1 (by omega)
      replace hx2 := hb4'.heap hx2 (by omega)
      have hti3 : (ti : Int) < 3 := by omega
      obtain ⟨ta, tl, tc, tp, htc, hta, htl, htlen⟩ : ∃ (ta : Option Addr) (tl tc : Nat) (tp : List ByteArray), w4.cell? ⟨w3.heap.size + 1 + 1, ti, none⟩ = some (.slice ta tl tc) ∧ Acc RStr 1 9 (fun _ => False) wo.heap.size w4 (.slice ta tl tc) tp ∧ tl = tp.length ∧ tp.length ≤ 2 := by
        have h3 : ti = 0 ∨ ti = 1 ∨ ti = 2 := by omega
        rcases h3 with rfl | rfl | rfl
        · exact ⟨none, 0, 0, [], cell_at (i := 0) hx2 rfl, Acc.nil _ _ _ _ _ _, rfl, by simp⟩
        · exact ⟨some ⟨w3.heap.size, 0, none⟩, 1, 1, [⟨#[97, 105]⟩], cell_at (i := 1) hx2 rfl, Acc.lits (ss := [⟨#[97, 105]⟩]) hx0 rfl (by omega) (by simp) (by decide), rfl, by simp⟩
        · exact ⟨some ⟨w3.heap.size + 1, 0, none⟩, 2, 2, [⟨#[97, 105]⟩, ⟨#[100, 98]⟩], cell_at (i := 2) hx2 rfl, Acc.lits (ss := [⟨#[97, 105]⟩, ⟨#[100, 98]⟩]) hx1 rfl (by omega) (by simp) (by decide), rfl, by simp⟩
      have HTL := Lib.hid htl
      clear hx0 hx1 hx2 hb4' hb3 hs3 htl hr1 hr2 hti
      have hwo4 := hb4.size
      have HM := Lib.hid (show MkP σ w4.heap.size wo idv trk ttl (.slice none 0 0) (.slice ta tl tc) [] tp (w4.alloc (.cells #[.string idv, .string trk, .string ttl, .slice none 0 0, .slice ta tl tc] 128)) n4 from ⟨heap_at _ _ _ rfl, hidz, hz1, hz2, Acc.nil _ _ _ _ _ _, hta.keepAll RStr.ok (Kept.alloc _ _ _), (fun _ h => by cases h), hs4.keep (Kept.alloc _ _ _), hb4.then_alloc _, by omega, hwo4⟩)
      go_upto_region 6 with fail
      generalize hw5 : w4.alloc (.cells #[.string idv, .string trk, .string ttl, .slice none 0 0, .slice ta tl tc] 128) = w5 at *
      obtain ⟨pb, hpb⟩ : ∃ b, b = w4.heap.size := ⟨_, rfl⟩
      have HPB := Lib.hid hpb
      rw [← hpb] at HM ⊢
      clear hpb hw5 hta hs4 hb4 htc
      have hpb0 : wo.heap.size ≤ pb := by have := HPB.out; omega
      have hau := heap_at w5 (.cells #[.string ⟨#[97, 110, 110]⟩, .string ⟨#[98, 111, 98]⟩, .string ⟨#[99, 105, 100]⟩, .string ⟨#[100, 101, 101]⟩] 9) _ rfl
      have hm6 := HM.out.new (Kept.alloc (fun _ => True) w5 (.cells #[.string ⟨#[97, 110, 110]⟩, .string ⟨#[98, 111, 98]⟩, .string ⟨#[99, 105, 100]⟩, .string ⟨#[100, 101, 101]⟩] 9))
      have hz5 : wo.heap.size ≤ w5.heap.size := HM.out.bt.size
      have hmp5 := HM.out.pbl
      go_wp2_with fail
      generalize hw6 : w5.alloc (.cells #[.string ⟨#[97, 110, 110]⟩, .string ⟨#[98, 111, 98]⟩, .string ⟨#[99, 105, 100]⟩, .string ⟨#[100, 101, 101]⟩] 9) = w6 at *
      clear hw6
      go_loopw [37] (fun i wr => ∃ j : Nat, j ≤ 4 ∧ i = .int .i64 j ∧ MadeX σ pb wo wr n4 j j w5.heap.size ∧ wr.heap[w5.heap.size]? = some (.cells #[.string ⟨#[97, 110, 110]⟩, .string ⟨#[98, 111, 98]⟩, .string ⟨#[99, 105, 100]⟩, .string ⟨#[100, 101, 101]⟩] 9 (0, 0))) (fun i _ => 4 - (intOf i).toNat)
      case atStart => exact ⟨0, Nat.zero_le _, rfl, ⟨_, _, _, _, _, _, _, n4, hm6, Nat.le_refl _, htlen, Nat.le_refl _, by omega, fun _ h => by cases h⟩, hau⟩
      case round =>
        clear hm6 hau
        obtain ⟨j, hj, rfl, ⟨id, track, title, av, tv, au, tp, n', hmk, hal, htp, hnA, hnB, hX⟩, hau⟩ := hrel
        obtain ⟨wp, rfl⟩ : ∃ wo : World, wo = wr := ⟨_, rfl⟩
        by_cases hlt4 : j < 4
        case pos =>
          obtain ⟨who, hwc, hwz⟩ : ∃ s : ByteArray, wp.cell? ⟨w5.heap.size, j, none⟩ = some (.string s) ∧ s.size ≤ 1000000 := by
            have h3 : j = 0 ∨ j = 1 ∨ j = 2 ∨ j = 3 := by omega
            rcases h3 with rfl | rfl | rfl | rfl
            · exact ⟨_, cell_at (i := 0) hau rfl, by decide⟩
            · exact ⟨_, cell_at (i := 1) hau rfl, by decide⟩
            · exact ⟨_, cell_at (i := 2) hau rfl, by decide⟩
            · exact ⟨_, cell_at (i := 3) hau rfl, by decide⟩
          have hst := hmk.st
          have hj4 : (j : Int) < 4 := by omega
          go_wp2_with fail
          refine (flip_any σ n' 3 _ hst (by omega) (by omega) (by omega)).mono ?_
          rintro e w7 ⟨v, n7, rfl, ⟨fl, rfl⟩, hA7, hB7, hs7, hb7⟩
          have hm7 := hmk.keep hb7 hs7
          have hau7 := hb7.heap hau (by omega)
          clear hmk hau hst hs7 hb7
          cases fl with
          | false =>
            have hfin := Lib.hid (show MadeX σ pb wo w7 n4 (j + 1) (j + 1) w5.heap.size from ⟨_, _, _, _, _, _, _, n7, hm7, by omega, htp, by omega, by omega, hX⟩)
            clear hm7
            go_wp2_with fail
            go_roundw
            case rel => exact ⟨j + 1, by omega, by go_num, hfin.out, hau7⟩
            case measure => simp [intOf]; omega
          | true =>
            have HM7 := Lib.hid hm7
            obtain ⟨aa, ac, hav, -⟩ := hm7.a.form
            obtain ⟨al, hal2⟩ : ∃ l, l = au.length := ⟨_, rfl⟩
            have HAL := Lib.hid hal2
            rw [← hal2] at hav hal
            have hblk := hm7.blk
            have hacc := hm7.a
            have hz7 := hm7.bt.size
            rw [hav] at hblk hacc HM7 hX
            clear hm7 hav hal2
            have f3 := cell_at (i := 3) hblk rfl
            have g3 := frozen_at (i := 3) hblk
            go_wp2_with (at_builtin; refine wp_append1 RStr.ok _ rfl _ _ 29 rfl wo.heap.size 9 (.string ⟨#[]⟩) 1 16 Tryz.underlying29 (by kernel_rfl) rfl (by decide) (fun _ => False) _ au rfl (hacc.keepAll RStr.ok (Kept.alloc _ _ _)) ⟨_, 0, none⟩ 1 [.string who] rfl rfl (cell_one_new _ _ _) (by simp [Value.oneCell']) who ⟨rfl, hwz⟩ (by have := HAL.out; omega) (by decide) (by simp; omega) ?_)
            intro p' c' w9 hacc9 hg9 hat9
            rw [← HAL.out] at hacc9 hat9 ⊢
            have hM9 := Lib.hid (HM7.out.growA (Kept.alloc _ _ _) hg9 (hat9.imp (fun h => h) (fun e => by rw [e]; simp)) hacc9)
            have hk9 : Kept (fun k => (Value.slice aa al ac).ownBlock ≠ some k) w7 w9 := (Kept.all (Kept.alloc _ _ _)).grown hg9 (fun k hk => Or.inr (fun h => h hk))
            have hb9 := hk9.heap hblk (fun e => hacc.notType hblk (by decide) pb e rfl)
            have f9 := cell_at (i := 3) hb9 rfl
            have g9 := frozen_at (i := 3) hb9
            have hXs := (Array.getElem?_eq_some_iff.1 hau7).1
            have hau9 := (Kept.setCell (F := fun k => k ≠ pb) w9 ⟨pb, 3, none⟩ (.slice p' (al + 1) c') (fun h => h rfl)).heap (hk9.heap hau7 (fun e => hX _ e rfl)) (by omega)
            have hX9 := Lib.hid (show ∀ k, (Value.slice p' (al + 1) c').ownBlock = some k → k ≠ w5.heap.size from fun k hk => by
              rcases hat9 with e | e
              · exact hX k (e ▸ hk)
              · rw [e] at hk; have := Option.some.inj hk; (try simp at this); omega)
            have hl9 := Lib.hid (show (au ++ [who]).length ≤ j + 1 from by simp; have := HAL.out; omega)
            clear hX hacc9 hat9 hg9 hk9 hb9 hblk hacc hau7
            go_wp2_with fail
            go_roundw
            case rel => exact ⟨j + 1, by omega, by go_num, ⟨_, _, _, _, _, _, _, n7, hM9.out, hl9.out, htp, by omega, by omega, hX9.out⟩, hau9⟩
            case measure => simp [intOf]; omega
        case neg =>
          have hdj : decide ((j : Int) < 4) = false := by simp; omega
          clear hau hX
          have HMM := Lib.hid hmk
          obtain ⟨aa, ac, hav, -⟩ := hmk.a.form
          obtain ⟨al, hal2⟩ : ∃ l, l = au.length := ⟨_, rfl⟩
          have HAL := Lib.hid hal2
          rw [← hal2] at hav
          have hblk := hmk.blk
          have hacc := hmk.a
          have hzx := hmk.bt.size
          have hst := hmk.st
          subst hav
          clear hal2
          have f3 := cell_at (i := 3) hblk rfl
          clear hmk
          go_upto_if 53 with fail
          go_cut [] (fun wx => MadeP σ pb wo wx n4 6 4)
          case first =>
            by_cases hz : al = 0
            case neg =>
              have hd : ((al : Int) == 0) = false := by simp; omega
              have hfin := Lib.hid (show MadeP σ pb wo wp n4 6 4 from ⟨_, _, _, _, _, _, _, n', HMM.out, by omega, by omega, by omega, by omega⟩)
              clear hacc hblk hst
              go_wp2_with fail
              go_meet
              exact hfin.out
            case pos =>
              subst hz
              have hls := hst.lt
              go_wp2_with fail
              refine (some10_any σ n' _ 2 2 [⟨#[97, 110, 110]⟩, ⟨#[98, 111, 98]⟩] _ (hst.keep (Kept.alloc _ _ _)) (by omega) (Sl.lit_strs _ (heap_at wp _ _ rfl) rfl (by omega)) (by omega) (by omega)).mono ?_
              rintro e w8 ⟨v, n8, rfl, ⟨who, rfl, -, hz8⟩, hA8, hB8, hs8, hb8'⟩
              have hm8 := HMM.out.keep ((Kept.all (Kept.alloc _ _ _)).trans hb8') hs8
              have hm9 := hm8.new (Kept.alloc (fun _ => True) w8 (.cells #[.string who] 9))
              have hb9 := hm9.blk
              have f9 := cell_at (i := 3) hb9 rfl
              have g9 := frozen_at (i := 3) hb9
              have hlit := Acc.lits (F := fun _ => False) (B := wo.heap.size) (ss := [who]) (heap_at w8 (.cells #[.string who] 9) _ rfl) rfl hm8.bt.size (by simp) (by intro s hs; rw [List.mem_singleton.1 hs]; exact hz8)
              have hdl : ∀ k, (Value.slice (some ⟨w8.heap.size, 0, none⟩) [who].length [who].length).ownBlock = some k → tv.ownBlock ≠ some k := fun k h1 h2 => by have e : w8.heap.size = k := Option.some.inj h1; have := (hm8.t.lt k h2).2; omega
              have hm10 := hm9.put 3 _ (by rfl) hm9.z0 hm9.z1 hm9.z2 hlit hm9.t hdl
              have hfin := Lib.hid (show MadeP σ pb wo _ n4 6 4 from ⟨_, _, _, _, _, _, _, n8, hm10, by simp, by omega, by omega, by omega⟩)
              clear hm8 hm9 hm10 hacc hblk hst hlit hdl hb8' hs8 hb9 f3
              go_wp2_with fail
              go_meet
              exact hfin.out
          case rest =>
            clear HMM hacc hblk hst f3 HAL hzx hal htp hnA hnB
            obtain ⟨id, track, title, av, tv, au, tp, n', hmk, hal, htp, hnA, hnB⟩ := hcut
            obtain ⟨wr1, rfl⟩ : ∃ x : World, x = wc := ⟨_, rfl⟩
            have hst := hmk.st
            go_wp2_with fail
            refine (flip_any σ n' 2 _ hst (by omega) (by omega) (by omega)).mono ?_
            rintro e w8 ⟨v, n8, rfl, ⟨fl, rfl⟩, hA8, hB8, hs8, hb8⟩
            have hm8 := hmk.keep hb8 hs8
            clear hmk hst hs8 hb8
            go_upto_if 60 with fail
            go_cut [] (fun wx => MadeP σ pb wo wx n4 7 4)
            case first =>
              cases fl with
              | false =>
                have hfin := Lib.hid (show MadeP σ pb wo w8 n4 7 4 from ⟨_, _, _, _, _, _, _, n8, hm8, by omega, by omega, by omega, by omega⟩)
                clear hm8
                go_wp2_with fail
                go_meet
                exact hfin.out
              | true =>
                have HMM := Lib.hid hm8
                obtain ⟨aa, ac, hav, -⟩ := hm8.a.form
                obtain ⟨al, hal2⟩ : ∃ l, l = au.length := ⟨_, rfl⟩
                have HAL := Lib.hid hal2
                rw [← hal2] at hav
                have hblk := hm8.blk
                have hacc := hm8.a
                have hzx := hm8.bt.size
                have hst := hm8.st
                subst hav
                clear hal2
                have f3 := cell_at (i := 3) hblk rfl
                have HRV := Lib.hid (reverseS_any _ au w8 hacc (by omega))
                clear hm8 hblk hst hacc
                go_wp2_with fail
                refine HRV.out.mono ?_
                rintro e w9 ⟨rfl, ⟨ys, hyl, hacy⟩, hkr⟩
                have hm9 := HMM.out.rev hkr hacy
                have hfin := Lib.hid (show MadeP σ pb wo w9 n4 7 4 from ⟨_, _, _, _, _, _, _, n8, hm9, by rw [hyl]; omega, by omega, by omega, by omega⟩)
                clear hm9 hkr hacy
                go_wp2_with fail
                go_meet
                exact hfin.out
            case rest =>
              clear hm8 hA8 hB8
              clear hal htp hnA hnB
              obtain ⟨id, track, title, av, tv, au, tp, n', hmk, hal, htp, hnA, hnB⟩ := hcut
              obtain ⟨wr2, rfl⟩ : ∃ x : World, x = wc := ⟨_, rfl⟩
              have hst := hmk.st
              go_wp2_with fail
              refine (flip_any σ n' 50 _ hst (by omega) (by omega) (by omega)).mono ?_
              rintro e w8 ⟨v, n8, rfl, ⟨fl, rfl⟩, hA8, hB8, hs8, hb8⟩
              have hm8 := hmk.keep hb8 hs8
              clear hmk hst hs8 hb8
              go_upto_if 65 with fail
              go_cut [] (fun wx => MadeP σ pb wo wx n4 15 10)
              case first =>
                cases fl with
                | false =>
                  have hfin := Lib.hid (show MadeP σ pb wo w8 n4 15 10 from ⟨_, _, _, _, _, _, _, n8, hm8, by omega, by omega, by omega, by omega⟩)
                  clear hm8
                  go_wp2_with fail
                  go_meet
                  exact hfin.out
                | true =>
                  have hst := hm8.st
                  go_wp2_with fail
                  refine (next_any σ n8 5 _ hst (by omega) (by omega) (by omega)).mono ?_
                  rintro e w9 ⟨v, n9, rfl, ⟨r, rfl, hr1, hr2⟩, hA9, hB9, hs9, hb9⟩
                  have hm9 := hm8.keep hb9 hs9
                  clear hm8 hst hb9
                  have hr5 : r = 0 ∨ r = 1 ∨ r = 2 ∨ r = 3 ∨ r = 4 := by omega
                  clear hr1 hr2
                  have hl9 := hs9.lt
                  have hwz9 := hm9.bt.size
                  rcases hr5 with rfl | rfl | rfl | rfl | rfl
                  · skip
                    go_wp2_with fail
                    refine (some10_any σ n9 _ 3 3 [⟨#[]⟩, ⟨#[65]⟩, idv] _ (hs9.keep (Kept.alloc _ _ _)) (by omega) (Sl.lit_strs' [⟨#[]⟩, ⟨#[65]⟩, idv] (heap_at w9 _ _ rfl) rfl (by omega) (by intro s hs; simp only [List.mem_cons, List.not_mem_nil, or_false] at hs; rcases hs with rfl | rfl | rfl <;> first | exact hidz | decide)) (by omega) (by omega)).mono ?_
                    rintro e w10 ⟨v, n10, rfl, ⟨y1, rfl, -, hy1⟩, hA10, hB10, hs10, hb10'⟩
                    have hm10 := hm9.keep ((Kept.all (Kept.alloc _ _ _)).trans hb10') hs10
                    have hl10 := hs10.lt
                    clear hb10' hm9
                    go_wp2_with fail
                    refine (some10_any σ n10 _ 2 2 [⟨#[]⟩, ⟨#[109, 97, 105, 110]⟩] _ (hs10.keep (Kept.alloc _ _ _)) (by omega) (Sl.lit_strs _ (heap_at w10 _ _ rfl) rfl (by omega)) (by omega) (by omega)).mono ?_
                    rintro e w11 ⟨v, n11, rfl, ⟨y2, rfl, -, hy2⟩, hA11, hB11, hs11, hb11'⟩
                    have hm11 := hm10.keep ((Kept.all (Kept.alloc _ _ _)).trans hb11') hs11
                    clear hb11' hm10
                    have hb := hm11.blk
                    have f0 := cell_at (i := 0) hb rfl
                    have g0 := frozen_at (i := 0) hb
                    have hm12 := hm11.put 0 (.string y1) (by rfl) hy1 hm11.z1 hm11.z2 hm11.a hm11.t hm11.dis
                    have hbX := hm12.blk
                    have f1 := cell_at (i := 1) hbX rfl
                    have g1 := frozen_at (i := 1) hbX
                    have hm13 := hm12.put 1 (.string y2) (by rfl) hy1 hy2 hm12.z2 hm12.a hm12.t hm12.dis
                    have hfin := Lib.hid (show MadeP σ pb wo _ n4 15 10 from ⟨_, _, _, _, _, _, _, n11, hm13, by omega, by omega, by omega, by omega⟩)
                    clear hm11 hm12 hm13 hb hbX hs10 hs11 hs9
                    go_wp2_with fail
                    go_meet
                    exact hfin.out
                  · skip
                    go_wp2_with fail
                    refine (pick_any σ n9 _ 2 2 [200, 201] _ (hs9.keep (Kept.alloc _ _ _)) (by omega) (Sl.lit_ints _ (heap_at w9 _ _ rfl) rfl (by omega)) (by omega) (by omega)).mono ?_
                    rintro e w10 ⟨v, n10, rfl, ⟨z7, rfl, hz7⟩, hA10, hB10, hs10, hb10'⟩
                    have hm10 := hm9.keep ((Kept.all (Kept.alloc _ _ _)).trans hb10') hs10
                    clear hb10' hm9
                    have hz7v : z7 = 200 ∨ z7 = 201 := by simpa using hz7
                    obtain ⟨zn, hzn⟩ : ∃ zn : Nat, z7 = (zn : Int) := ⟨z7.toNat, by omega⟩
                    subst hzn
                    have hznb : zn ≤ 201 := by omega
                    clear hz7 hz7v
                    go_wp2_with fail
                    refine (repeatB_any ⟨#[116]⟩ zn _ (by show 1 * zn ≤ _; omega) (by omega)).mono ?_
                    rintro e w11 ⟨tt, rfl, htt, hq11⟩
                    have hm11 := hm10.new hq11
                    have hs11 := hs10.keep hq11
                    have htt2 : tt.size ≤ 1000000 := by have : (⟨#[116]⟩ : ByteArray).size = 1 := rfl; rw [this] at htt; omega
                    have hl11 := hs11.lt
                    clear hm10 hs10 hq11 htt
                    go_wp2_with fail
                    refine (some10_any σ n10 _ 4 4 [⟨#[]⟩, ⟨#[32, 120]⟩, ⟨#[97, 32, 32, 98]⟩, tt] _ (hs11.keep (Kept.alloc _ _ _)) (by omega) (Sl.lit_strs' [⟨#[]⟩, ⟨#[32, 120]⟩, ⟨#[97, 32, 32, 98]⟩, tt] (heap_at w11 _ _ rfl) rfl (by omega) (by intro s hs; simp only [List.mem_cons, List.not_mem_nil, or_false] at hs; rcases hs with rfl | rfl | rfl | rfl <;> first | exact htt2 | decide)) (by omega) (by omega)).mono ?_
                    rintro e w12 ⟨v, n12, rfl, ⟨y1, rfl, -, hy1⟩, hA12, hB12, hs12, hb12'⟩
                    have hm12 := hm11.keep ((Kept.all (Kept.alloc _ _ _)).trans hb12') hs12
                    clear hb12' hm11
                    have hb := hm12.blk
                    have f0 := cell_at (i := 2) hb rfl
                    have g0 := frozen_at (i := 2) hb
                    have hm13 := hm12.put 2 (.string y1) (by rfl) hm12.z0 hm12.z1 hy1 hm12.a hm12.t hm12.dis
                    have hfin := Lib.hid (show MadeP σ pb wo _ n4 15 10 from ⟨_, _, _, _, _, _, _, n12, hm13, by omega, by omega, by omega, by omega⟩)
                    clear hm12 hm13 hb hs11 hs12 hs9
                    go_wp2_with fail
                    go_meet
                    exact hfin.out
                  · skip
                    have HMM := Lib.hid hm9
                    obtain ⟨xa, xc, hav, -⟩ := hm9.a.form
                    obtain ⟨xl, hxl⟩ : ∃ l, l = au.length := ⟨_, rfl⟩
                    have HXL := Lib.hid hxl
                    rw [← hxl] at hav
                    subst hav
                    have hblk := hm9.blk
                    have hst := hm9.st
                    have f0 := cell_at (i := 3) hblk rfl
                    have d0 := (Kept.drew (fun _ => True) (w9.alloc (.cells #[.string ⟨#[110, 111, 110, 101]⟩, .string ⟨#[97, 110, 110]⟩, .string ⟨#[]⟩, .string ⟨#[65]⟩] 9))).cell (cell_at (i := 3) (heap_old (.cells #[.string ⟨#[110, 111, 110, 101]⟩, .string ⟨#[97, 110, 110]⟩, .string ⟨#[]⟩, .string ⟨#[65]⟩] 9) hblk) rfl) trivial
                    clear hm9 hxl hs9
                    have hplb : au.length + 1 ≤ 1000000000 := by omega
                    go_wp2_with fail
                    go_region_law (first
                      | (refine step_append1 RStr.ok _ (by rfl) _ _ 29 (by rfl) wo.heap.size 9 (.string ⟨#[]⟩) 1 16 Tryz.underlying29 (by kernel_rfl) rfl (by decide) (fun _ => False) (.slice xa xl xc) au (by rfl) (hmX.a.keepAll RStr.ok (by repeat (first | exact Kept.refl _ _ | refine Kept.then_drew ?_ | refine Kept.then_drewN ?_ _ | refine Kept.then_alloc ?_ _))) ⟨wX.heap.size, 0, none⟩ 1 [.string y] (by rfl) rfl (World.news_of_block (cs := #[.string y]) (t := 9) (fr := (0, 0)) (heap_alloc_new wX _)) (by simp [Value.oneCell']) y ⟨rfl, hy⟩ hplb (by decide) (by have := hmX.bt.size; simp; omega) ?_; intro p8 c8 w8 hacc8 hgrow hat8; rw [← HXL.out] at hacc8 hat8 ⊢; have hk8 : Kept (fun k => (Value.slice xa xl xc).ownBlock ≠ some k) wX w8 := (Kept.grown (Kept.all (((by repeat (first | exact Kept.refl _ _ | refine Kept.then_drew ?_ | refine Kept.then_drewN ?_ _ | refine Kept.then_alloc ?_ _))) : All wX _)) hgrow (fun k hk => Or.inr (fun h => h hk))); have hbb8 := hk8.heap hmX.blk (fun e => hmX.a.notType hmX.blk (by decide) pb e rfl); have f8 := cell_at (i := 3) hbb8 rfl; have z8 := frozen_at (i := 3) hbb8)
                      | (go_simp; go_at_call 58; refine (some10_any σ n9 _ 4 4 [⟨#[110, 111, 110, 101]⟩, ⟨#[97, 110, 110]⟩, ⟨#[]⟩, ⟨#[65]⟩] (w9.alloc (.cells #[.string ⟨#[110, 111, 110, 101]⟩, .string ⟨#[97, 110, 110]⟩, .string ⟨#[]⟩, .string ⟨#[65]⟩] 9)).drew (hst.keep (by repeat (first | exact Kept.refl _ _ | refine Kept.then_drew ?_ | refine Kept.then_drewN ?_ _ | refine Kept.then_alloc ?_ _))) (by omega) (Sl.lit_strs [⟨#[110, 111, 110, 101]⟩, ⟨#[97, 110, 110]⟩, ⟨#[]⟩, ⟨#[65]⟩] (w' := (w9.alloc (.cells #[.string ⟨#[110, 111, 110, 101]⟩, .string ⟨#[97, 110, 110]⟩, .string ⟨#[]⟩, .string ⟨#[65]⟩] 9)).drew) (heap_at w9 (.cells #[.string ⟨#[110, 111, 110, 101]⟩, .string ⟨#[97, 110, 110]⟩, .string ⟨#[]⟩, .string ⟨#[65]⟩] 9) w9.heap.size rfl) rfl (by omega)) (by omega) (by omega)).mono ?_; rintro e wX ⟨v, nX, rfl, ⟨y, rfl, -, hy⟩, hAX, hBX, hsX, hbX'⟩; have hmX := HMM.out.keep ((Kept.all ((by repeat (first | exact Kept.refl _ _ | refine Kept.then_drew ?_ | refine Kept.then_drewN ?_ _ | refine Kept.then_alloc ?_ _)) : All w9 _)).trans hbX') hsX; have fX := cell_at (i := 3) hmX.blk rfl; have fXa := cell_at (i := 3) (heap_old (.cells #[.string y] 9) hmX.blk) rfl))
                    all_goals
                      have hmZ := hmX.growA ((by repeat (first | exact Kept.refl _ _ | refine Kept.then_drew ?_ | refine Kept.then_drewN ?_ _ | refine Kept.then_alloc ?_ _)) : All wX _) hgrow hat8 hacc8
                      have hfin := Lib.hid (show MadeP σ pb wo _ n4 15 10 from ⟨_, _, _, _, _, _, _, nX, hmZ, by simp; omega, by omega, by omega, by omega⟩)
                      clear hmZ hmX hacc8 hgrow hat8 hk8 hbb8 hsX hbX'
                      go_wp2_with fail
                      go_meet
                      exact hfin.out
                  · skip
                    have hb := hm9.blk
                    have f0 := cell_at (i := 3) hb rfl
                    have g0 := frozen_at (i := 3) hb
                    have hm10 := hm9.put 3 (.slice none 0 0) (by rfl) hm9.z0 hm9.z1 hm9.z2 (Acc.nil _ _ _ _ _ _) hm9.t (fun _ h => by cases h)
                    have hfin := Lib.hid (show MadeP σ pb wo _ n4 15 10 from ⟨_, _, _, _, _, _, _, n9, hm10, by simp, by omega, by omega, by omega⟩)
                    clear hm9 hm10 hb hs9
                    go_wp2_with fail
                    go_meet
                    exact hfin.out
                  · skip
                    have HMM := Lib.hid hm9
                    obtain ⟨xa, xc, hav, -⟩ := hm9.t.form
                    obtain ⟨xl, hxl⟩ : ∃ l, l = tp.length := ⟨_, rfl⟩
                    have HXL := Lib.hid hxl
                    rw [← hxl] at hav
                    subst hav
                    have hblk := hm9.blk
                    have hst := hm9.st
                    have f0 := cell_at (i := 4) hblk rfl
                    have d0 := (Kept.drew (fun _ => True) (w9.alloc (.cells #[.string ⟨#[]⟩, .string ⟨#[97, 105]⟩, .string ⟨#[65]⟩] 9))).cell (cell_at (i := 4) (heap_old (.cells #[.string ⟨#[]⟩, .string ⟨#[97, 105]⟩, .string ⟨#[65]⟩] 9) hblk) rfl) trivial
                    clear hm9 hxl hs9
                    have hplb : tp.length + 1 ≤ 1000000000 := by omega
                    go_wp2_with fail
                    go_region_law (first
                      | (refine step_append1 RStr.ok _ (by rfl) _ _ 29 (by rfl) wo.heap.size 9 (.string ⟨#[]⟩) 1 16 Tryz.underlying29 (by kernel_rfl) rfl (by decide) (fun _ => False) (.slice xa xl xc) tp (by rfl) (hmX.t.keepAll RStr.ok (by repeat (first | exact Kept.refl _ _ | refine Kept.then_drew ?_ | refine Kept.then_drewN ?_ _ | refine Kept.then_alloc ?_ _))) ⟨wX.heap.size, 0, none⟩ 1 [.string y] (by rfl) rfl (World.news_of_block (cs := #[.string y]) (t := 9) (fr := (0, 0)) (heap_alloc_new wX _)) (by simp [Value.oneCell']) y ⟨rfl, hy⟩ hplb (by decide) (by have := hmX.bt.size; simp; omega) ?_; intro p8 c8 w8 hacc8 hgrow hat8; rw [← HXL.out] at hacc8 hat8 ⊢; have hk8 : Kept (fun k => (Value.slice xa xl xc).ownBlock ≠ some k) wX w8 := (Kept.grown (Kept.all (((by repeat (first | exact Kept.refl _ _ | refine Kept.then_drew ?_ | refine Kept.then_drewN ?_ _ | refine Kept.then_alloc ?_ _))) : All wX _)) hgrow (fun k hk => Or.inr (fun h => h hk))); have hbb8 := hk8.heap hmX.blk (fun e => hmX.t.notType hmX.blk (by decide) pb e rfl); have f8 := cell_at (i := 4) hbb8 rfl; have z8 := frozen_at (i := 4) hbb8)
                      | (go_simp; go_at_call 58; refine (some10_any σ n9 _ 3 3 [⟨#[]⟩, ⟨#[97, 105]⟩, ⟨#[65]⟩] (w9.alloc (.cells #[.string ⟨#[]⟩, .string ⟨#[97, 105]⟩, .string ⟨#[65]⟩] 9)).drew (hst.keep (by repeat (first | exact Kept.refl _ _ | refine Kept.then_drew ?_ | refine Kept.then_drewN ?_ _ | refine Kept.then_alloc ?_ _))) (by omega) (Sl.lit_strs [⟨#[]⟩, ⟨#[97, 105]⟩, ⟨#[65]⟩] (w' := (w9.alloc (.cells #[.string ⟨#[]⟩, .string ⟨#[97, 105]⟩, .string ⟨#[65]⟩] 9)).drew) (heap_at w9 (.cells #[.string ⟨#[]⟩, .string ⟨#[97, 105]⟩, .string ⟨#[65]⟩] 9) w9.heap.size rfl) rfl (by omega)) (by omega) (by omega)).mono ?_; rintro e wX ⟨v, nX, rfl, ⟨y, rfl, -, hy⟩, hAX, hBX, hsX, hbX'⟩; have hmX := HMM.out.keep ((Kept.all ((by repeat (first | exact Kept.refl _ _ | refine Kept.then_drew ?_ | refine Kept.then_drewN ?_ _ | refine Kept.then_alloc ?_ _)) : All w9 _)).trans hbX') hsX; have fX := cell_at (i := 4) hmX.blk rfl; have fXa := cell_at (i := 4) (heap_old (.cells #[.string y] 9) hmX.blk) rfl))
                    all_goals
                      have hmZ := hmX.growT ((by repeat (first | exact Kept.refl _ _ | refine Kept.then_drew ?_ | refine Kept.then_drewN ?_ _ | refine Kept.then_alloc ?_ _)) : All wX _) hgrow hat8 hacc8
                      have hfin := Lib.hid (show MadeP σ pb wo _ n4 15 10 from ⟨_, _, _, _, _, _, _, nX, hmZ, by omega, by simp; omega, by omega, by omega⟩)
                      clear hmZ hmX hacc8 hgrow hat8 hk8 hbb8 hsX hbX'
                      go_wp2_with fail
                      go_meet
                      exact hfin.out
              case rest =>
                clear hm8 hA8 hB8 hal htp hnA hnB
                obtain ⟨id, track, title, av, tv, au, tp, n', hmk, hal, htp, hnA, hnB⟩ := hcut
                obtain ⟨wz, rfl⟩ : ∃ x : World, x = wc := ⟨_, rfl⟩
                obtain ⟨aa, ac, rfl, hac⟩ := hmk.a.form
                obtain ⟨ta2, tc2, rfl, htc2⟩ := hmk.t.form
                have hz0 := hmk.z0
                have hz1' := hmk.z1
                have hz2' := hmk.z2
                have slA : Sl RStr 1 (fun k => wo.heap.size ≤ k) wz aa au.length au := by
                  obtain ⟨a', c', he, hs⟩ := hmk.a.sl RStr.ok (by decide) (G := fun k => wo.heap.size ≤ k) (fun _ h => h.elim) (fun j hj => (hmk.a.lt j hj).1)
                  injection he with e1 e2 e3
                  subst e1
                  exact hs
                have slT : Sl RStr 1 (fun k => wo.heap.size ≤ k) wz ta2 tp.length tp := by
                  obtain ⟨a', c', he, hs⟩ := hmk.t.sl RStr.ok (by decide) (G := fun k => wo.heap.size ≤ k) (fun _ h => h.elim) (fun j hj => (hmk.t.lt j hj).1)
                  injection he with e1 e2 e3
                  subst e1
                  exact hs
                obtain ⟨x, hx⟩ : ∃ x : Pap, x = ⟨id, track, title, au, tp⟩ := ⟨_, rfl⟩
                have hb := hmk.blk
                have g0 := cell_at (i := 0) hb rfl
                have g1 := cell_at (i := 1) hb rfl
                have g2 := cell_at (i := 2) hb rfl
                have g3 := cell_at (i := 3) hb rfl
                have g4 := cell_at (i := 4) hb rfl
                have hst := hmk.st
                have hbt := hmk.bt
                have hsg := hmk.hs
                have hown : ∀ k, (Value.slice pv q pc).ownBlock = some k → k < wo.heap.size := fun k hk => (HAC.out.lt k hk).2
                have hacz : Acc RPap 5 128 (fun j => ib ≤ j) ib wz (.slice pv q pc) ps := HAC.out.keep RPap.ok hbt (fun k hk => by omega) (fun k hk => by have := (HAC.out.lt k hk).1; omega)
                have HRP := Lib.hid (show ∀ wx, All wz wx → RPap (fun k => ib ≤ k ∧ (Value.slice pv q pc).ownBlock ≠ some k) wx [.string id, .string track, .string title, .slice aa au.length ac, .slice ta2 tp.length tc2] ⟨id, track, title, au, tp⟩ from fun wx k => ⟨aa, ac, ta2, tc2, rfl, hac, htc2, ⟨hz0, hz1', hz2', by show au.length ≤ 1000; omega, by show tp.length ≤ 1000; omega⟩, (slA.keep RStr.ok k.all).mono RStr.ok (fun j hj => ⟨by omega, fun e => by have := hown j e; omega⟩), (slT.keep RStr.ok k.all).mono RStr.ok (fun j hj => ⟨by omega, fun e => by have := hown j e; omega⟩)⟩)
                obtain ⟨al, hal3⟩ : ∃ l, l = au.length := ⟨_, rfl⟩
                obtain ⟨tl2, htl3⟩ : ∃ l, l = tp.length := ⟨_, rfl⟩
                have hzz := hbt.size
                rw [← hal3] at g3 HRP hb hac
                rw [← htl3] at g4 HRP hb htc2
                clear slA slT hal3 htl3 hx x hmk
                go_wp2_with (at_builtin; refine wp_append1 RPap.ok _ rfl _ _ 27 rfl ib 128 (.agg #[.string ⟨#[]⟩, .string ⟨#[]⟩, .string ⟨#[]⟩, .slice none 0 0, .slice none 0 0]) 5 96 Tryz.underlying27 (by kernel_rfl) rfl (by decide) (fun j => ib ≤ j) _ ps rfl (hacz.keepAll RPap.ok (Kept.alloc _ _ _)) ⟨_, 0, none⟩ 1 [.string id, .string track, .string title, .slice aa al ac, .slice ta2 tl2 tc2] rfl rfl (World.news_of_block (cs := #[.string id, .string track, .string title, .slice aa al ac, .slice ta2 tl2 tc2]) (heap_alloc_new wz _)) (by simp [Value.oneCell']) ⟨id, track, title, au, tp⟩ (HRP.out _ (Kept.alloc _ _ _)) (by have := HQ.out; omega) (by decide) (by simp; omega) ?_)
                intro p' c' w9 hacc9 hg9 hat9
                rw [← HQ.out] at hacc9 ⊢
                have hk9 : Kept (fun k => (Value.slice pv q pc).ownBlock ≠ some k) wz w9 := (Kept.all (Kept.alloc _ _ _)).grown hg9 (fun k hk => Or.inr (fun h => h hk))
                have hkr := Lib.hid (fun k (hk : (Value.slice pv q pc).ownBlock = some k) => (hacz.lt k hk).1)
                have hbut9 : But σ.b w0 w9 := (hwo.trans hbt).trans2 hk9 (fun i hi _ e => by have := hkr.out i e; have := HIB.out; omega)
                have hs9 := hst.kept hk9 (fun k hk e => by have := hkr.out k e; omega)
                have hid9 := hk9.heap (hbt.heap HI.out (by omega)) (fun e => hacz.notType (hbt.heap HI.out (by omega)) (by decide) ib e rfl)
                have hpl9 := Lib.hid (show (ps ++ [(⟨id, track, title, au, tp⟩ : Pap)]).length ≤ k + 1 from by simp; have := HQ.out; omega)
                clear hg9 hat9 hk9 hacz hb g0 g1 g2 g3 g4 hst hbt hwo HRP hown
                go_wp2_with fail
                go_roundw
                case rel => exact ⟨k + 1, by omega, by go_num, _, n', hpl9.out, hacc9, hs9, by omega, by omega, hbut9, hid9⟩
                case measure => simp [intOf]; omega
end Go.Proofs.YtjbaijgdkkccbaaGreatDoor

/- The generator RightSetup. -/
namespace Go.Proofs.YtjbaijgdkkccbaaGreatDoor
open Go.RowKit

theorem setC_noStr {v0 v1 v2 v3 v4 : Value} {s : Set7} (h0 : ∀ z, v0 ≠ .string z) (h1 : ∀ z, v1 ≠ .string z) (h2 : ∀ z, v2 ≠ .string z) (h3 : ∀ z, v3 ≠ .string z) (h4 : ∀ z, v4 ≠ .string z) : ∀ v ∈ (setC v0 v1 v2 v3 v4 s).toList, ∀ z, v ≠ .string z := by
  intro v hv z
  simp only [List.mem_cons, List.not_mem_nil, or_false] at hv
  rcases hv with rfl | rfl | rfl | rfl | rfl | rfl | rfl
  · exact h0 z
  · exact h1 z
  · exact h2 z
  · exact h3 z
  · exact h4 z
  · exact fun h => by cases h
  · exact fun h => by cases h
theorem Acc.noStr {α : Type} {R : Rel α} {sz : Nat} {T : TypeId} {F : Nat → Prop} {B : Nat} {w : World} {v : Value} {xs : List α} (h : Acc R sz T F B w v xs) : ∀ z, v ≠ .string z := by
  obtain ⟨a, c, rfl, -⟩ := h.form
  exact fun z h => by cases h
theorem SetAcc.noStr {σ : St} {B B1 B2 : Nat} {v0 v1 v2 v3 v4 : Value} {s : Set7} {w : World} (h : SetAcc σ B B1 B2 v0 v1 v2 v3 v4 s w) {b : Nat} {fz : Nat × Nat} (hb : w.heap[b]? = some (.cells (setC v0 v1 v2 v3 v4 s) 31 fz)) : NoStr w b :=
  NoStr.of hb (setC_noStr h.a0.noStr h.a1.noStr h.a2.noStr h.a3.noStr h.a4.noStr)
/-- A setup is being made in block bb. -/
structure MkS (σ : St) (bb B B1 B2 : Nat) (v0 v1 v2 v3 v4 : Value) (s : Set7) (w0 wx : World) (rb n : Nat) : Prop where
  acc : SetAcc σ B B1 B2 v0 v1 v2 v3 v4 s wx
  blk : wx.heap[bb]? = some (.cells (setC v0 v1 v2 v3 v4 s) 31 (0, 0))
  rblk : wx.heap[rb]? = some (.cells #[.slice none 0 0, .slice none 0 0, .slice none 0 0, .slice none 0 0, .slice none 0 0, .int .i64 0, .int .i64 0] 31 (0, 0))
  st : Str σ wx n
  bt : But σ.b w0 wx
  h1 : σ.b < w0.heap.size
  h2 : w0.heap.size ≤ rb
  h3 : rb < bb
section
variable {σ : St} {bb B B1 B2 rb n : Nat} {v0 v1 v2 v3 v4 : Value} {s : Set7} {w0 wx W w9 : World}
theorem MkS.keep (h : MkS σ bb B B1 B2 v0 v1 v2 v3 v4 s w0 wx rb n) {m : Nat} (k : But σ.b wx W) (hs : Str σ W m) : MkS σ bb B B1 B2 v0 v1 v2 v3 v4 s w0 W rb m := by
  have h1 := h.h1; have h2 := h.h2; have h3 := h.h3
  exact ⟨h.acc.keep k, k.heap h.blk (by omega), k.heap h.rblk (by omega), hs, h.bt.trans k, h1, h2, h3⟩
theorem MkS.new (h : MkS σ bb B B1 B2 v0 v1 v2 v3 v4 s w0 wx rb n) (k : All wx W) : MkS σ bb B B1 B2 v0 v1 v2 v3 v4 s w0 W rb n := h.keep k.all (h.st.keep k)
/-- Behind what leaves all but a row of another type as it is, and a store into bb. -/
theorem MkS.put (h : MkS σ bb B B1 B2 v0 v1 v2 v3 v4 s w0 wx rb n) {v0' v1' v2' v3' v4' u : Value} {s' : Set7} {i g : Nat} (hk : Kept (fun k => k ≠ g) wx W) (hg : w0.heap.size ≤ g) (hgb : g ≠ bb) (hgr : g ≠ rb)
    (hacc : SetAcc σ B B1 B2 v0' v1' v2' v3' v4' s' W) (hc : (setC v0 v1 v2 v3 v4 s).setIfInBounds i u = setC v0' v1' v2' v3' v4' s') (hu : ∀ v ∈ (setC v0 v1 v2 v3 v4 s).toList, ∀ z, v ≠ .string z) :
    MkS σ bb B B1 B2 v0' v1' v2' v3' v4' s' w0 (W.setCell ⟨bb, i, none⟩ u) rb n := by
  have h1 := h.h1; have h2 := h.h2; have h3 := h.h3
  have hb := hk.heap h.blk (fun e => hgb e.symm)
  have k2 : Kept (fun k => k ≠ bb) W (W.setCell ⟨bb, i, none⟩ u) := Kept.setCell _ _ _ (fun h => h rfl)
  refine ⟨hacc.past hb (NoStr.of hb hu) k2 (by decide) (by decide) (by decide) (by decide), ?_, k2.heap (hk.heap h.rblk (fun e => hgr e.symm)) (by omega), (h.st.kept hk (fun k hk => by omega)).set _ _ (by dsimp only; omega), (h.bt.trans2 hk (fun k hk _ => by omega)).then_setNew _ _ (by dsimp only; omega), h1, h2, h3⟩
  rw [← hc]
  exact heap_setCell_at _ _ _ _ _ _ _ hb
end
/-- What an append to a row leaves as it is. -/
theorem grown_kept {W w9 : World} {v : Value} {wx : World} (hW : All wx W) (hg : W.grownBy w9 v.ownBlock) (g : Nat) (h : ∀ k, v.ownBlock = some k → k = g) : Kept (fun k => k ≠ g) wx w9 :=
  hW.all.grown hg (fun k hk => Or.inr (fun hn => hn (h k hk)))

set_option maxRecDepth 100000 in
set_option maxHeartbeats 12800000 in
theorem rightSetup_any (σ : St) (n0 : Nat) (w0 : World) (hs0 : Str σ w0 n0) (hn : n0 ≤ 4611686018427300000) (hg : ∀ wx, But σ.b w0 wx → Glob wx) :
    Calls Tryz.prog 138 #[.pointer (some ⟨σ.b, 0, none⟩)] w0 (StPost σ n0 300 w0 (PSetR σ w0.heap.size)) := by
  have hl0 := hs0.lt
  have HG := Lib.hid hg
  clear hg
  go_enter Tryz.func138, Tryz.ntmps138
  have hk1 : All w0 (w0.alloc (.cells #[.slice none 0 0, .slice none 0 0, .slice none 0 0, .slice none 0 0, .slice none 0 0, .int .i64 0, .int .i64 0] 31)) := Kept.alloc _ _ _
  have hr1 := heap_at w0 (.cells #[.slice none 0 0, .slice none 0 0, .slice none 0 0, .slice none 0 0, .slice none 0 0, .int .i64 0, .int .i64 0] 31) _ rfl
  have hs1 := hs0.keep hk1
  have hw1 : But σ.b w0 _ := hk1.all
  obtain ⟨rb, hrb⟩ : ∃ b, b = w0.heap.size := ⟨_, rfl⟩
  have HRB := Lib.hid hrb
  rw [← hrb] at hr1
  have hrs : σ.b < rb := by omega
  have hrb0 : w0.heap.size ≤ rb := by omega
  have hz01 : w0.heap.size ≤ (w0.alloc (.cells #[.slice none 0 0, .slice none 0 0, .slice none 0 0, .slice none 0 0, .slice none 0 0, .int .i64 0, .int .i64 0] 31)).heap.size := by simp
  clear hrb
  go_upto_region 1 with fail
  simp only [← HRB.out]
  generalize w0.alloc (.cells #[.slice none 0 0, .slice none 0 0, .slice none 0 0, .slice none 0 0, .slice none 0 0, .int .i64 0, .int .i64 0] 31) = w1 at *
  have hl1 := hs1.lt
  clear hk1 hs0
  go_wp2_with fail
  refine (rightSheet_any σ n0 _ hs1 (by omega)).mono ?_
  rintro e w2 ⟨v0, n2, rfl, ⟨xs, hx1, hx2, aS⟩, hA2, hB2, hs2, hb2⟩
  have hw2 := hw1.trans hb2
  have hr2 := hb2.heap hr1 (by omega)
  clear hr1 hs1 hw1 hb2
  have hl2 := hs2.lt
  have hz2 := hw2.size
  go_wp2_with fail
  refine (pick_any σ n2 _ 4 4 [1440, 2880, 3000, 5761440] _ (hs2.keep (Kept.alloc _ _ _)) (by omega) (Sl.lit_ints _ (heap_at w2 _ _ rfl) rfl (by omega)) (by omega) (by omega)).mono ?_
  rintro e w3 ⟨v, n3, rfl, ⟨due, rfl, -⟩, hA3, hB3, hs3, hb3⟩
  have hc3 : But σ.b w2 w3 := (Kept.all (Kept.alloc _ _ _)).trans hb3
  have hw3 := hw2.trans hc3
  have hr3 := hc3.heap hr2 (by omega)
  replace aS := aS.keep RQst.ok hc3 (fun _ h => h) (fun k hk => by have := (aS.lt k hk).1; omega)
  clear hr2 hs2 hw2 hb3 hc3
  have hl3 := hs3.lt
  have hz3 := hw3.size
  go_wp2_with fail
  refine (pick_any σ n3 _ 4 4 [0, 2000, 5000, 5761440] _ (hs3.keep (Kept.alloc _ _ _)) (by omega) (Sl.lit_ints _ (heap_at w3 _ _ rfl) rfl (by omega)) (by omega) (by omega)).mono ?_
  rintro e w4 ⟨v, n4, rfl, ⟨rep, rfl, -⟩, hA4, hB4, hs4, hb4⟩
  have hc4 : But σ.b w3 w4 := (Kept.all (Kept.alloc _ _ _)).trans hb4
  have hw4 := hw3.trans hc4
  have hr4 := hc4.heap hr3 (by omega)
  replace aS := aS.keep RQst.ok hc4 (fun _ h => h) (fun k hk => by have := (aS.lt k hk).1; omega)
  clear hr3 hs3 hw3 hb4 hc4
  have hl4 := hs4.lt
  have hz4 := hw4.size
  replace aS := aS.live RQst.ok
  have hx0 := heap_old (.cells #[.slice none 0 0, .slice (some ⟨w4.heap.size, 0, none⟩) 1 1, .slice (some ⟨w4.heap.size + 1, 0, none⟩) 2 2] 29) (heap_old (.cells #[.string ⟨#[97, 110, 110]⟩, .string ⟨#[101, 118, 101]⟩] 9) (heap_at w4 (.cells #[.string ⟨#[101, 118, 101]⟩] 9) _ rfl))
  have hx1' := heap_old (.cells #[.slice none 0 0, .slice (some ⟨w4.heap.size, 0, none⟩) 1 1, .slice (some ⟨w4.heap.size + 1, 0, none⟩) 2 2] 29) (heap_at (w4.alloc (.cells #[.string ⟨#[101, 118, 101]⟩] 9)) (.cells #[.string ⟨#[97, 110, 110]⟩, .string ⟨#[101, 118, 101]⟩] 9) (w4.heap.size + 1) (by simp))
  have hx2' := heap_at ((w4.alloc (.cells #[.string ⟨#[101, 118, 101]⟩] 9)).alloc (.cells #[.string ⟨#[97, 110, 110]⟩, .string ⟨#[101, 118, 101]⟩] 9)) (.cells #[.slice none 0 0, .slice (some ⟨w4.heap.size, 0, none⟩) 1 1, .slice (some ⟨w4.heap.size + 1, 0, none⟩) 2 2] 29) (w4.heap.size + 1 + 1) (by simp)
  go_wp2_with fail
  refine (next_any σ n4 3 _ (hs4.keep (((Kept.alloc _ _ _).then_alloc _).then_alloc _)) (by omega) (by omega) (by omega)).mono ?_
  rintro e w5 ⟨v, n5, rfl, ⟨r, rfl, hr1, hr2'⟩, hA5, hB5, hs5, hb5'⟩
  obtain ⟨ti, rfl⟩ := Int.eq_ofNat_of_zero_le hr1
  have hti : ti < 3 := by omega
  have hc5 : But σ.b w4 w5 := (((Kept.all (Kept.alloc _ _ _)).then_alloc _).then_alloc _).trans hb5'
  have hw5 := hw4.trans hc5
  have hr5 := hc5.heap hr4 (by omega)
  replace hx0 := hb5'.heap hx0 (by omega)
  replace hx1' := hb5'.heap hx1' (by omega)
  replace hx2' := hb5'.heap hx2' (by omega)
  have hti3 : (ti : Int) < 3 := by omega
  replace aS := aS.keep RQst.ok hc5 (fun _ h => h.1) (fun k hk => by have := (aS.lt k hk).1; omega)
  have hz45 := hc5.size
  have hz5 := hw5.size
  obtain ⟨a4, l4, c4, cs, htc, aC, htl, htlen, hC4⟩ : ∃ (ta : Option Addr) (tl tc : Nat) (tp : List ByteArray), w5.cell? ⟨w4.heap.size + 1 + 1, ti, none⟩ = some (.slice ta tl tc) ∧ Acc RStr 1 9 (fun _ => False) w0.heap.size w5 (.slice ta tl tc) tp ∧ tl = tp.length ∧ tp.length ≤ 2 ∧ ∀ k, (Value.slice ta tl tc).ownBlock = some k → w4.heap.size ≤ k := by
    have h3 : ti = 0 ∨ ti = 1 ∨ ti = 2 := by omega
    rcases h3 with rfl | rfl | rfl
    · exact ⟨none, 0, 0, [], cell_at (i := 0) hx2' rfl, Acc.nil _ _ _ _ _ _, rfl, by simp, fun _ h => by cases h⟩
    · exact ⟨some ⟨w4.heap.size, 0, none⟩, 1, 1, [⟨#[101, 118, 101]⟩], cell_at (i := 1) hx2' rfl, Acc.lits (ss := [⟨#[101, 118, 101]⟩]) hx0 rfl (by omega) (by simp) (by decide), rfl, by simp, fun k h => by have e : w4.heap.size = k := Option.some.inj h; omega⟩
    · exact ⟨some ⟨w4.heap.size + 1, 0, none⟩, 2, 2, [⟨#[97, 110, 110]⟩, ⟨#[101, 118, 101]⟩], cell_at (i := 2) hx2' rfl, Acc.lits (ss := [⟨#[97, 110, 110]⟩, ⟨#[101, 118, 101]⟩]) hx1' rfl (by omega) (by simp) (by decide), rfl, by simp, fun k h => by have e : w4.heap.size + 1 = k := Option.some.inj h; omega⟩
  have HTL := Lib.hid htl
  clear hx0 hx1' hx2' hb5' hs4 hw4 hr4 htl hr1 hr2' hti hc5
  obtain ⟨a0, c0, hv0, -⟩ := aS.form
  obtain ⟨l0, hl0e⟩ : ∃ l, l = xs.length := ⟨_, rfl⟩
  have HL0 := Lib.hid hl0e
  rw [← hl0e] at hv0 hx1 hx2
  subst hv0
  clear hl0e
  have hk6 : All w5 (w5.alloc (.cells #[.slice a0 l0 c0, .slice none 0 0, .slice none 0 0, .slice none 0 0, .slice a4 l4 c4, .int .i64 due, .int .i64 rep] 31)) := Kept.alloc _ _ _
  have hb6 := heap_at w5 (.cells #[.slice a0 l0 c0, .slice none 0 0, .slice none 0 0, .slice none 0 0, .slice a4 l4 c4, .int .i64 due, .int .i64 rep] 31) _ rfl
  have hs6 := hs5.keep hk6
  have hw6 := hw5.trans hk6.all
  have hr6 := hk6.heap hr5 trivial
  have aS6 := aS.keepAll RQst.ok hk6
  have aC6 := aC.keepAll RStr.ok hk6
  have hl6 := hs6.lt
  obtain ⟨bb, hbb⟩ : ∃ b, b = w5.heap.size := ⟨_, rfl⟩
  have HBB := Lib.hid hbb
  have hz56 : w5.heap.size ≤ (w5.alloc (.cells #[.slice a0 l0 c0, .slice none 0 0, .slice none 0 0, .slice none 0 0, .slice a4 l4 c4, .int .i64 due, .int .i64 rep] 31)).heap.size := by simp
  have hbb7 : bb < (w5.alloc (.cells #[.slice a0 l0 c0, .slice none 0 0, .slice none 0 0, .slice none 0 0, .slice a4 l4 c4, .int .i64 due, .int .i64 rep] 31)).heap.size := by rw [hbb]; simp
  have hrbb : rb < bb := by have := (Array.getElem?_eq_some_iff.1 hr5).1; omega
  rw [← hbb] at hb6
  have hC4l : ∀ k, (Value.slice a4 l4 c4).ownBlock = some k → k < bb := fun k hk => by have := (aC.lt k hk).2; omega
  clear hbb
  go_upto_region 2 with fail
  simp only [← HBB.out]
  generalize w5.alloc (.cells #[.slice a0 l0 c0, .slice none 0 0, .slice none 0 0, .slice none 0 0, .slice a4 l4 c4, .int .i64 due, .int .i64 rep] 31) = w6 at *
  clear hk6 hs5 hw5 hr5 aS aC htc
  go_wp2_with fail
  refine (papersOf10_any σ n5 _ hs6 (by omega)).mono ?_
  rintro e w7 ⟨vp, n7, rfl, ⟨pp, hpl, aP⟩, hA7, hB7, hs7, hb7⟩
  have hw7 := hw6.trans hb7
  have hr7 := hb7.heap hr6 (by omega)
  have hb7b := hb7.heap hb6 (by omega)
  have hl7 := hs7.lt
  have hz7 := hb7.size
  have aS7 := aS6.keep RQst.ok hb7 (fun _ h => h.1) (fun k hk => by have := (aS6.lt k hk).1; omega)
  have aC7 := aC6.keep RStr.ok hb7 (fun _ h => h.elim) (fun k hk => by have := (aC6.lt k hk).1; omega)
  obtain ⟨ap, cp, rfl, slP⟩ := (aP.live RPap.ok).sl RPap.ok (by decide) (G := fun k => w6.heap.size ≤ k ∧ k < w7.heap.size) (fun _ h => h) (fun k hk => aP.lt k hk)
  obtain ⟨mp, hmp⟩ : ∃ m, m = pp.length := ⟨_, rfl⟩
  have HMP := Lib.hid hmp
  rw [← hmp] at slP hpl ⊢
  clear hmp aP
  have HM := Lib.hid (show MkS σ bb w0.heap.size w7.heap.size w7.heap.size (.slice a0 l0 c0) (.slice none 0 0) (.slice none 0 0) (.slice none 0 0) (.slice a4 l4 c4) ⟨xs, [], [], [], cs, due, rep⟩ w0 w7 rb n7 from ⟨⟨aS7.base (by omega) |>.mono RQst.ok (fun k hk => ⟨hk.1, by omega, fun e => by have := hC4 k e; omega⟩), Acc.nil _ _ _ _ _ _, Acc.nil _ _ _ _ _ _, Acc.nil _ _ _ _ _ _, aC7, (fun _ h => by cases h), hl0, by omega, by omega⟩, hb7b, hr7, hs7, hw7, hl0, by omega, hrbb⟩)
  clear aS6 aC6 aS7 aC7 hb7b hr7 hr6 hb6 hs6 hs7 hw6 hw7 hb7
  go_wp2_with fail
  go_loopw [30] (fun i wr => ∃ k : Nat, k ≤ mp ∧ i = .int .i64 k ∧ ∃ (v1 : Value) (ps : List Pap), MkS σ bb w0.heap.size w7.heap.size w7.heap.size (.slice a0 l0 c0) v1 (.slice none 0 0) (.slice none 0 0) (.slice a4 l4 c4) ⟨xs, ps, [], [], cs, due, rep⟩ w0 wr rb n7 ∧ ps.length ≤ k ∧ Kept (fun k => w6.heap.size ≤ k ∧ k < w7.heap.size) w7 wr) (fun i _ => mp - (intOf i).toNat)
  case atStart => exact ⟨0, Nat.zero_le _, rfl, _, [], HM.out, Nat.le_refl _, Kept.refl _ _⟩
  case round =>
    clear HM
    obtain ⟨k, hk, rfl, v1, ps, hm, hpsl, hkp⟩ := hrel
    obtain ⟨wo, rfl⟩ : ∃ wo : World, wo = wr := ⟨_, rfl⟩
    by_cases hlt : k < mp
    case pos =>
      obtain ⟨b, off, x, aa, ac, ta, tc, ha, -, y0, y1, y2, y3, y4, hac, htc, hsm, hsa, hst, hx, -⟩ := (slP.keep RPap.ok hkp).atPap hlt
      subst ha
      obtain ⟨xa, hxa⟩ : ∃ m, m = x.authors.length := ⟨_, rfl⟩
      obtain ⟨xt, hxt⟩ : ∃ m, m = x.topics.length := ⟨_, rfl⟩
      have HXA := Lib.hid hxa
      have HXT := Lib.hid hxt
      rw [← hxa] at y3
      rw [← hxt] at y4
      clear hx
      have HRP := Lib.hid (show ∀ wx, Kept (fun k => w6.heap.size ≤ k ∧ k < w7.heap.size) wo wx → RPap (fun k => w6.heap.size ≤ k ∧ k < w7.heap.size) wx [.string x.id, .string x.track, .string x.title, .slice aa xa ac, .slice ta xt tc] x from fun wx kx => by rw [hxa, hxt]; exact ⟨aa, ac, ta, tc, rfl, hac, htc, hsm, hsa.keep RStr.ok kx, hst.keep RStr.ok kx⟩)
      clear hac htc hsm hsa hst hxa hxt
      have hk1 : All wo (wo.alloc (.cells #[.string x.id, .string x.track, .string x.title, .slice aa xa ac, .slice ta xt tc] 128)) := Kept.alloc _ _ _
      have hp1 := heap_at wo (.cells #[.string x.id, .string x.track, .string x.title, .slice aa xa ac, .slice ta xt tc] 128) _ rfl
      have hm1 := hm.new hk1
      have q0 := cell_at (i := 0) hp1 rfl
      have q1 := cell_at (i := 1) hp1 rfl
      have q2 := cell_at (i := 2) hp1 rfl
      have q3 := cell_at (i := 3) hp1 rfl
      have q4 := cell_at (i := 4) hp1 rfl
      have hk2 : All (wo.alloc (.cells #[.string x.id, .string x.track, .string x.title, .slice aa xa ac, .slice ta xt tc] 128)) ((wo.alloc (.cells #[.string x.id, .string x.track, .string x.title, .slice aa xa ac, .slice ta xt tc] 128)).alloc (.cells #[.string x.id, .string x.track, .string x.title, .slice aa xa ac, .slice ta xt tc] 128)) := Kept.alloc _ _ _
      have hp2 := heap_at (wo.alloc (.cells #[.string x.id, .string x.track, .string x.title, .slice aa xa ac, .slice ta xt tc] 128)) (.cells #[.string x.id, .string x.track, .string x.title, .slice aa xa ac, .slice ta xt tc] 128) (wo.heap.size + 1) (by simp)
      have HPF := Lib.hid (paperForms_any (some ⟨wo.heap.size + 1, 0, none⟩) 1 1 [x] ((wo.alloc (.cells #[.string x.id, .string x.track, .string x.title, .slice aa xa ac, .slice ta xt tc] 128)).alloc (.cells #[.string x.id, .string x.track, .string x.title, .slice aa xa ac, .slice ta xt tc] 128)) (Sl.one (R := RPap) (sz := 5) (F := fun _ => True) (vs := [.string x.id, .string x.track, .string x.title, .slice aa xa ac, .slice ta xt tc]) hp2 rfl trivial (RPap.ok.mono (fun _ _ => trivial) (HRP.out _ (hk1.trans hk2).all))) (by omega) (HG.out _ (hm1.new hk2).bt))
      obtain ⟨pf, hpf⟩ : ∃ z, z = papersF [x] := ⟨_, rfl⟩
      rw [← hpf] at HPF
      have hm2 := hm1.new hk2
      have s0 := hk2.cell q0 trivial
      have s1 := hk2.cell q1 trivial
      have s2 := hk2.cell q2 trivial
      have s3 := hk2.cell q3 trivial
      have s4 := hk2.cell q4 trivial
      clear hpf hp1 hp2 hm1
      go_wp2_with fail
      refine HPF.out.mono ?_
      rintro e w3 ⟨rfl, hw3⟩
      have hm3 := hm2.new hw3
      have t0 := hw3.cell s0 trivial
      have t1 := hw3.cell s1 trivial
      have t2 := hw3.cell s2 trivial
      have t3 := hw3.cell s3 trivial
      have t4 := hw3.cell s4 trivial
      have hkp3 := hkp.trans ((hk1.trans hk2).trans hw3).all
      have HRP3 := Lib.hid (fun wx (kx : Kept (fun k => w6.heap.size ≤ k ∧ k < w7.heap.size) w3 wx) => HRP.out wx (((hk1.trans hk2).trans hw3).all.trans kx))
      clear HPF hm2 hm hk1 hk2 hw3 hkp HRP q0 s0 y0 q1 s1 y1 q2 s2 y2 q3 s3 y3 q4 s4 y4
      by_cases hpf0 : pf = 0
      case neg =>
        have hd : (pf == 0) = false := by simpa using hpf0
        go_wp2_with fail
        go_roundw
        case rel => exact ⟨k + 1, by omega, by go_num, v1, ps, hm3, by omega, hkp3⟩
        case measure => simp [intOf]; omega
      case pos =>
        subst hpf0
        obtain ⟨a1, c1, rfl, -⟩ := hm3.acc.a1.form
        obtain ⟨l1, hl1e⟩ : ∃ l, l = ps.length := ⟨_, rfl⟩
        have HL1 := Lib.hid hl1e
        have HM3 := Lib.hid hm3
        have ac1 := hm3.acc.a1
        have hbk := hm3.blk
        have hz3 := hm3.bt.size
        have hrbk := hm3.rblk
        rw [← hl1e] at HM3 ac1 hbk hpsl
        clear hm3 hl1e
        have e1 := cell_at (i := 1) hbk rfl
        have hkA : All w3 (w3.alloc (.cells #[.string x.id, .string x.track, .string x.title, .slice aa xa ac, .slice ta xt tc] 128)) := Kept.alloc _ _ _
        have hwz3 : w7.heap.size ≤ w3.heap.size := hkp3.size
        have hown : ∀ k, (Value.slice a1 l1 c1).ownBlock = some k → w7.heap.size ≤ k := fun k hk => (ac1.lt k hk).1
        have hyR : RPap (fun k => (k ≠ σ.b ∧ k < w7.heap.size ∧ (Value.slice a4 l4 c4).ownBlock ≠ some k) ∧ (Value.slice a1 l1 c1).ownBlock ≠ some k) (w3.alloc (.cells #[.string x.id, .string x.track, .string x.title, .slice aa xa ac, .slice ta xt tc] 128)) [.string x.id, .string x.track, .string x.title, .slice aa xa ac, .slice ta xt tc] x := RPap.ok.mono (fun k hk => ⟨⟨by omega, hk.2, fun e => by have := hC4l k e; omega⟩, fun e => by have := hown k e; omega⟩) (HRP3.out _ hkA.all)
        have HYR := Lib.hid hyR
        clear hyR
        go_wp2_with (at_builtin; refine wp_append1 RPap.ok _ rfl _ _ 27 rfl w7.heap.size 128 (.agg #[.string ⟨#[]⟩, .string ⟨#[]⟩, .string ⟨#[]⟩, .slice none 0 0, .slice none 0 0]) 5 96 Tryz.underlying27 (by kernel_rfl) rfl (by decide) (fun k => k ≠ σ.b ∧ k < w7.heap.size ∧ (Value.slice a4 l4 c4).ownBlock ≠ some k) _ ps rfl (ac1.keepAll RPap.ok (Kept.alloc _ _ _)) ⟨_, 0, none⟩ 1 [.string x.id, .string x.track, .string x.title, .slice aa xa ac, .slice ta xt tc] rfl rfl (World.news_of_block (cs := #[.string x.id, .string x.track, .string x.title, .slice aa xa ac, .slice ta xt tc]) (heap_alloc_new w3 _)) (by simp [Value.oneCell']) x HYR.out (by have := HL1.out; omega) (by decide) (by simp; omega) ?_)
        intro p' c' w9 hacc9 hg9 hat9
        rw [← HL1.out] at hacc9 ⊢
        have hA9 := HM3.out.acc.grow1 (Nat.le_refl _) hkA hg9 hacc9
        have hgk : ∃ g, (∀ k, (Value.slice a1 l1 c1).ownBlock = some k → k = g) ∧ w0.heap.size ≤ g ∧ g ≠ bb ∧ g ≠ rb ∧ w7.heap.size ≤ g := by
          cases a1 with
          | none => exact ⟨w7.heap.size, fun k h => (by cases h), by omega, by omega, by omega, Nat.le_refl _⟩
          | some g => exact ⟨g.block, fun k h => (Option.some.inj h).symm, by have := hown _ rfl; omega, ac1.notType hbk (by decide) _ rfl, ac1.notType hrbk (by decide) _ rfl, hown _ rfl⟩
        obtain ⟨g, hg1, hg2, hg3, hg4, hg5⟩ := hgk
        have hkg := grown_kept hkA hg9 g hg1
        have hM9 := Lib.hid (HM3.out.put (i := 1) (u := .slice p' (l1 + 1) c') hkg hg2 hg3 hg4 hA9 rfl (setC_noStr HM3.out.acc.a0.noStr HM3.out.acc.a1.noStr HM3.out.acc.a2.noStr HM3.out.acc.a3.noStr HM3.out.acc.a4.noStr))
        have hb9 := hkg.heap hbk (fun e => hg3 e.symm)
        have f9 := cell_at (i := 1) hb9 rfl
        have g9 := frozen_at (i := 1) hb9
        have hkp9 := Lib.hid ((hkp3.trans2 hkg (fun j _ hj e => by omega)).then_setCell ⟨bb, 1, none⟩ (.slice p' (l1 + 1) c') (fun h => by have : bb < w6.heap.size := hbb7; have h1 : w6.heap.size ≤ bb := h.1; omega))
        have hpl9 := Lib.hid (show (ps ++ [x]).length ≤ k + 1 from by simp; have := HL1.out; omega)
        clear hacc9 hat9 hg9 hA9 hkg hg1 hg2 hg3 hg4 hg5 hb9 hbk hrbk ac1 hkp3 hown hkA
        go_wp2_with fail
        go_roundw
        case rel => exact ⟨k + 1, by omega, by go_num, _, _, hM9.out, hpl9.out, hkp9.out⟩
        case measure => simp [intOf]; omega
    case neg =>
      have hdk : decide ((k : Int) < (mp : Int)) = false := by simp; omega
      obtain ⟨a1, c1, rfl, slq⟩ := hm.acc.a1.sl RPap.ok (by decide) (G := fun _ => True) (fun _ _ => trivial) (fun _ _ => trivial)
      have HM := Lib.hid hm
      have e1 := cell_at (i := 1) hm.blk rfl
      have HPF := Lib.hid (paperForms_any a1 ps.length c1 ps _ slq (by omega) (HG.out _ hm.bt))
      obtain ⟨l1, hl1e⟩ : ∃ l, l = ps.length := ⟨_, rfl⟩
      have HL1 := Lib.hid hl1e
      rw [← hl1e] at HPF HM e1 hpsl
      obtain ⟨pf, hpf⟩ : ∃ z, z = papersF ps := ⟨_, rfl⟩
      rw [← hpf] at HPF
      clear hpf hl1e slq hm
      go_wp2_with fail
      refine HPF.out.mono ?_
      rintro e w8 ⟨rfl, hw8⟩
      have hm8 := HM.out.new hw8
      have hz78 : w7.heap.size ≤ w8.heap.size := Nat.le_trans hkp.size hw8.size
      clear HPF HM e1 hw8 hkp
      go_upto_if 48 with fail
      go_cut [] (fun wx => ∃ (v1 : Value) (ps : List Pap), MkS σ bb w0.heap.size w7.heap.size w7.heap.size (.slice a0 l0 c0) (v1) (.slice none 0 0) (.slice none 0 0) (.slice a4 l4 c4) ⟨xs, ps, [], [], cs, due, rep⟩ w0 wx rb n7 ∧ ps.length ≤ 3 ∧ w7.heap.size ≤ wx.heap.size)
      case first =>
        by_cases hpf0 : pf = 0
        case pos =>
          subst hpf0
          have hfin := Lib.hid hm8
          have hl9 := Lib.hid (show ps.length ≤ 3 from by have := HL1.out; omega)
          clear hm8
          go_wp2_with fail
          go_meet
          exact ⟨_, _, hfin.out, hl9.out, hz78⟩
        case neg =>
          have hd : (pf != 0) = true := by simpa using hpf0
          have hbk := hm8.blk
          have f1 := cell_at (i := 1) hbk rfl
          have g1 := frozen_at (i := 1) hbk
          have h2 := hm8.h2
          have h3 := hm8.h3
          have hl8 := (Array.getElem?_eq_some_iff.1 hbk).1
          have hfin := Lib.hid (hm8.put (i := 1) (u := .slice none 0 0) (g := w8.heap.size) (Kept.refl _ _) hm8.bt.size (by omega) (by omega) hm8.acc.none1 rfl (setC_noStr hm8.acc.a0.noStr hm8.acc.a1.noStr hm8.acc.a2.noStr hm8.acc.a3.noStr hm8.acc.a4.noStr))
          have hz79 := Lib.hid (show w7.heap.size ≤ (w8.setCell ⟨bb, 1, none⟩ (.slice none 0 0)).heap.size from Nat.le_trans hz78 (by simp [World.setCell]))
          clear hm8 hbk
          go_wp2_with fail
          go_meet
          exact ⟨_, _, hfin.out, by simp, hz79.out⟩
      case rest =>
        clear hm8 HL1 hpsl hlt hk hdk hz78
        obtain ⟨v1, qs, hm, hqs, hzE7⟩ := hcut
        obtain ⟨wE, rfl⟩ : ∃ x : World, x = wc := ⟨_, rfl⟩
        have hz8 := hm.bt.size
        have hbk := hm.blk
        have h2 := hm.h2
        have h3 := hm.h3
        have hbE := (Array.getElem?_eq_some_iff.1 hbk).1
        obtain ⟨a1, c1, rfl, slQ⟩ := (hm.acc.a1.live RPap.ok).sl RPap.ok (by decide) (G := fun k => k ≠ σ.b ∧ k < wE.heap.size) (fun _ h => ⟨h.1.1, h.2⟩) (fun j hj => by have := hm.acc.a1.lt j hj; have := hm.acc.hB1; have := hm.acc.hB; omega)
        replace slQ := slQ.off RPap.isOff (hm.acc.noStr hbk)
        obtain ⟨mq, hmq⟩ : ∃ m, m = qs.length := ⟨_, rfl⟩
        have HMQ := Lib.hid hmq
        have HM := Lib.hid (show MkS σ bb w0.heap.size w7.heap.size wE.heap.size (.slice a0 l0 c0) (.slice a1 qs.length c1) (.slice none 0 0) (.slice none 0 0) (.slice a4 l4 c4) ⟨xs, qs, [], [], cs, due, rep⟩ w0 wE rb n7 from ⟨hm.acc.rebase (C := wE.heap.size) hzE7, hm.blk, hm.rblk, hm.st, hm.bt, hm.h1, hm.h2, hm.h3⟩)
        have e1 := cell_at (i := 1) hbk rfl
        rw [← hmq] at slQ HM e1 hqs
        clear hm hbk hmq
        go_wp2_with fail
        go_loopw [53] (fun i wr => ∃ k : Nat, k ≤ mq ∧ i = .int .i64 k ∧ ∃ (v2 v3 : Value) (pr br : List Pair2) (n' : Nat), MkS σ bb w0.heap.size w7.heap.size wE.heap.size (.slice a0 l0 c0) (.slice a1 mq c1) (v2) (v3) (.slice a4 l4 c4) ⟨xs, qs, pr, br, cs, due, rep⟩ w0 wr rb n' ∧ pr.length ≤ 4 * k ∧ br.length ≤ 4 * k ∧ n7 ≤ n' ∧ n' ≤ n7 + 4 * k ∧ Kept (fun k => (k ≠ σ.b ∧ k < wE.heap.size) ∧ k ≠ bb) wE wr) (fun i _ => mq - (intOf i).toNat)
        case atStart => exact ⟨0, Nat.zero_le _, rfl, _, _, [], [], n7, HM.out, Nat.le_refl _, Nat.le_refl _, Nat.le_refl _, by omega, Kept.refl _ _⟩
        case round =>
          clear HM e1
          obtain ⟨k, hk, rfl, v2, v3, pr, br, n', hm, hprl, hbrl, hnA, hnB, hkq⟩ := hrel
          obtain ⟨wo, rfl⟩ : ∃ wo : World, wo = wr := ⟨_, rfl⟩
          by_cases hlt : k < mq
          case pos =>
            obtain ⟨b, off, x, aa, ac, ta, tc, ha, -, y0, y1, y2, y3, y4, hac, htc, ⟨hx1', hx2', hx3', hx4', hx5'⟩, hsa, -, hx, -⟩ := (slQ.keep RPap.ok hkq).atPap hlt
            subst ha
            obtain ⟨xa, hxa⟩ : ∃ m, m = x.authors.length := ⟨_, rfl⟩
            obtain ⟨xt, hxt⟩ : ∃ m, m = x.topics.length := ⟨_, rfl⟩
            rw [← hxa] at y3 hsa hx4'
            rw [← hxt] at y4
            clear hx hac htc hx2' hx3' hx5' hxa hxt
            have hk1 : All wo (wo.alloc (.cells #[.string x.id, .string x.track, .string x.title, .slice aa xa ac, .slice ta xt tc] 128)) := Kept.alloc _ _ _
            have hp1 := heap_at wo (.cells #[.string x.id, .string x.track, .string x.title, .slice aa xa ac, .slice ta xt tc] 128) _ rfl
            have hm1 := hm.new hk1
            have hkq1 := hkq.trans hk1.all
            have hzo : wE.heap.size ≤ wo.heap.size := hkq.size
            have hsa1 := hsa.keep RStr.ok hk1.all
            clear hm hkq hsa hk1
            obtain ⟨tb, htb⟩ : ∃ b, b = wo.heap.size := ⟨_, rfl⟩
            have HTB := Lib.hid htb
            rw [← htb] at hp1
            have htb0 : wE.heap.size ≤ tb := by omega
            clear htb
            go_upto_region 13 with fail
            simp only [← HTB.out]
            generalize wo.alloc (.cells #[.string x.id, .string x.track, .string x.title, .slice aa xa ac, .slice ta xt tc] 128) = wq at *
            clear y0 y1 y2 y3 y4
            have hk2 : All wq (wq.alloc (.cells #[.string ⟨#[98, 111, 98]⟩, .string ⟨#[99, 105, 100]⟩, .string ⟨#[100, 101, 101]⟩, .string ⟨#[102, 97, 121]⟩] 9)) := Kept.alloc _ _ _
            have hw2 := heap_at wq (.cells #[.string ⟨#[98, 111, 98]⟩, .string ⟨#[99, 105, 100]⟩, .string ⟨#[100, 101, 101]⟩, .string ⟨#[102, 97, 121]⟩] 9) _ rfl
            have hm2 := hm1.new hk2
            have hkq2 := hkq1.trans hk2.all
            have hp2 := hk2.heap hp1 trivial
            have hsa2 := hsa1.keep RStr.ok hk2.all
            have htbq : tb < wq.heap.size := (Array.getElem?_eq_some_iff.1 hp1).1
            clear hm1 hkq1 hp1 hsa1
            go_wp2_with fail
            generalize hwle : wq.alloc (.cells #[.string ⟨#[98, 111, 98]⟩, .string ⟨#[99, 105, 100]⟩, .string ⟨#[100, 101, 101]⟩, .string ⟨#[102, 97, 121]⟩] 9) = wl at *
            clear hwle hk2
            go_loopw [59] (fun i wr => ∃ j : Nat, j ≤ 4 ∧ i = .int .i64 j ∧ ∃ (v2 v3 : Value) (pr br : List Pair2) (m' : Nat), MkS σ bb w0.heap.size w7.heap.size wE.heap.size (.slice a0 l0 c0) (.slice (some ⟨b, off, none⟩) mq c1) (v2) (v3) (.slice a4 l4 c4) ⟨xs, qs, pr, br, cs, due, rep⟩ w0 wr rb m' ∧ pr.length ≤ 4 * k + j ∧ br.length ≤ 4 * k + j ∧ n7 ≤ m' ∧ m' ≤ n7 + 4 * k + j ∧ Kept (fun k => (k ≠ σ.b ∧ k < wE.heap.size) ∧ k ≠ bb) wE wr ∧ wr.heap[wq.heap.size]? = some (.cells #[.string ⟨#[98, 111, 98]⟩, .string ⟨#[99, 105, 100]⟩, .string ⟨#[100, 101, 101]⟩, .string ⟨#[102, 97, 121]⟩] 9 (0, 0)) ∧ wr.heap[tb]? = some (.cells #[.string x.id, .string x.track, .string x.title, .slice aa xa ac, .slice ta xt tc] 128 (0, 0)) ∧ Kept (fun k => (k ≠ σ.b ∧ k < wE.heap.size) ∧ k ≠ bb) wl wr) (fun i _ => 4 - (intOf i).toNat)
            case atStart => exact ⟨0, Nat.zero_le _, rfl, _, _, pr, br, n', hm2, by omega, by omega, hnA, by omega, hkq2, hw2, hp2, Kept.refl _ _⟩
            case round =>
              clear hm2 hkq2 hw2 hp2 hprl hbrl hnA hnB
              obtain ⟨j, hj, rfl, v2, v3, pr, br, m', hm, hprl, hbrl, hnA, hnB, hkq, hw2, hp2, hkl⟩ := hrel
              obtain ⟨wi, rfl⟩ : ∃ wo : World, wo = wr := ⟨_, rfl⟩
              by_cases hlt4 : j < 4
              case neg =>
                have hdj : decide ((j : Int) < 4) = false := by simp; omega
                clear hw2 hp2 hkl
                go_wp2_with fail
                go_roundw
                case rel => exact ⟨k + 1, by omega, by go_num, _, _, pr, br, m', hm, by omega, by omega, hnA, by omega, hkq⟩
                case measure => simp [intOf]; omega
              case pos =>
                obtain ⟨who, hwc, hwz⟩ : ∃ s : ByteArray, wi.cell? ⟨wq.heap.size, j, none⟩ = some (.string s) ∧ s.size ≤ 1000000 := by
                  have h3 : j = 0 ∨ j = 1 ∨ j = 2 ∨ j = 3 := by omega
                  rcases h3 with rfl | rfl | rfl | rfl
                  · exact ⟨_, cell_at (i := 0) hw2 rfl, by decide⟩
                  · exact ⟨_, cell_at (i := 1) hw2 rfl, by decide⟩
                  · exact ⟨_, cell_at (i := 2) hw2 rfl, by decide⟩
                  · exact ⟨_, cell_at (i := 3) hw2 rfl, by decide⟩
                have hst := hm.st
                have hj4 : (j : Int) < 4 := by omega
                go_wp2_with fail
                refine (next_any σ m' 4 _ hst (by omega) (by omega) (by omega)).mono ?_
                rintro e w10 ⟨v, n10, rfl, ⟨r, rfl, hr1, hr2⟩, hA10, hB10, hs10, hb10⟩
                have hm10 := hm.keep hb10 hs10
                have hkq10 := hkq.trans2 hb10 (fun k _ hk => hk.1.1)
                have hkl10 := hkl.trans2 hb10 (fun k _ hk => hk.1.1)
                have hw10 := hb10.heap hw2 (by omega)
                have hp10 := hb10.heap hp2 (by omega)
                have HSA := Lib.hid (hsa2.keep RStr.ok hkl10)
                clear hm hkq hkl hw2 hp2 hst hb10
                have t0 := cell_at (i := 0) hp10 rfl
                have t3 := cell_at (i := 3) hp10 rfl
                have hr4 : r = 0 ∨ r = 3 ∨ r = 1 ∨ r = 2 := by omega
                clear hr1 hr2
                rcases hr4 with rfl | rfl | hr
                · skip
                  have HM10 := Lib.hid hm10
                  obtain ⟨ag, cg, hvg, -⟩ := hm10.acc.a3.form
                  obtain ⟨lg, hlg⟩ : ∃ l, l = br.length := ⟨_, rfl⟩
                  have HLG := Lib.hid hlg
                  rw [← hlg] at hvg
                  subst hvg
                  have acg := hm10.acc.a3
                  have hbk := hm10.blk
                  have hrbk := hm10.rblk
                  have hz0 := hm10.bt.size
                  have hzE := hkq10.size
                  clear hm10 hlg
                  have f1 := cell_at (i := 3) hbk rfl
                  have hown : ∀ k, (Value.slice ag lg cg).ownBlock = some k → wE.heap.size ≤ k := fun k hk => (acg.lt k hk).1
                  go_wp2_with (at_builtin; refine wp_append1 RPair.ok _ rfl _ _ 28 rfl wE.heap.size 39 (.agg #[.string ⟨#[]⟩, .string ⟨#[]⟩]) 2 32 Tryz.underlying28 (by kernel_rfl) rfl (by decide) (fun _ => False) _ br rfl (acg.keepAll RPair.ok (Kept.alloc _ _ _)) ⟨_, 0, none⟩ 1 [.string x.id, .string who] rfl rfl (World.news_of_block (cs := #[.string x.id, .string who]) (heap_alloc_new w10 _)) (by simp [Value.oneCell']) ⟨x.id, who, hx1', hwz⟩ rfl (by have := HLG.out; omega) (by decide) (by simp; omega) ?_)
                  intro p' c' w9 hacc9 hg9 hat9
                  rw [← HLG.out] at hacc9 hat9 ⊢
                  have hkA : All w10 (w10.alloc (.cells #[.string x.id, .string who] 39)) := Kept.alloc _ _ _
                  have hA9 := HM10.out.acc.grow3 hkA hg9 (hat9.imp (fun h => h) (fun e => by rw [e]; simp)) hacc9
                  have hgk : ∃ g, (∀ k, (Value.slice ag lg cg).ownBlock = some k → k = g) ∧ w0.heap.size ≤ g ∧ g ≠ bb ∧ g ≠ rb ∧ wE.heap.size ≤ g ∧ g ≠ wq.heap.size ∧ g ≠ tb := by
                    cases ag with
                    | none =>
                      refine ⟨w10.heap.size, fun k h => (by cases h), by omega, ?_, ?_, by omega, ?_, ?_⟩
                      · have := (Array.getElem?_eq_some_iff.1 hbk).1; omega
                      · have := (Array.getElem?_eq_some_iff.1 hrbk).1; omega
                      · have := (Array.getElem?_eq_some_iff.1 hw10).1; omega
                      · have := (Array.getElem?_eq_some_iff.1 hp10).1; omega
                    | some g => exact ⟨g.block, fun k h => (Option.some.inj h).symm, by have := hown _ rfl; omega, acg.notType hbk (by decide) _ rfl, acg.notType hrbk (by decide) _ rfl, hown _ rfl, acg.notType hw10 (by decide) _ rfl, acg.notType hp10 (by decide) _ rfl⟩
                  obtain ⟨g, hg1, hg2, hg3, hg4, hg5, hg6, hg7⟩ := hgk
                  have hkg := grown_kept hkA hg9 g hg1
                  have hM9 := Lib.hid (HM10.out.put (i := 3) (u := .slice p' (lg + 1) c') hkg hg2 hg3 hg4 hA9 rfl (setC_noStr HM10.out.acc.a0.noStr HM10.out.acc.a1.noStr HM10.out.acc.a2.noStr HM10.out.acc.a3.noStr HM10.out.acc.a4.noStr))
                  have hb9 := hkg.heap hbk (fun e => hg3 e.symm)
                  have f9 := cell_at (i := 3) hb9 rfl
                  have g9 := frozen_at (i := 3) hb9
                  have hk9 := Lib.hid ((hkq10.trans2 hkg (fun i _ hi e => by omega)).then_setCell ⟨bb, 3, none⟩ (.slice p' (lg + 1) c') (fun h => h.2 rfl))
                  have hk8 := Lib.hid ((hkl10.trans2 hkg (fun i _ hi e => by omega)).then_setCell ⟨bb, 3, none⟩ (.slice p' (lg + 1) c') (fun h => h.2 rfl))
                  have kS : Kept (fun k => k ≠ bb) w9 (w9.setCell ⟨bb, 3, none⟩ (.slice p' (lg + 1) c')) := Kept.setCell _ _ _ (fun h => h rfl)
                  have hw9 := Lib.hid (kS.heap (hkg.heap hw10 (fun e => hg6 e.symm)) (by omega))
                  have hp9 := Lib.hid (kS.heap (hkg.heap hp10 (fun e => hg7 e.symm)) (by omega))
                  have hl9 := Lib.hid (show (br ++ [(⟨x.id, who, hx1', hwz⟩ : Pair2)]).length ≤ 4 * k + (j + 1) from by simp; have := HLG.out; omega)
                  clear hacc9 hat9 hg9 hA9 hkg hg1 hg2 hg3 hg4 hg5 hg6 hg7 hb9 hbk hrbk acg hkq10 hkl10 hown hkA hw10 hp10 t0 t3 kS
                  go_wp2_with fail
                  go_roundw
                  case rel => exact ⟨j + 1, by omega, by go_num, _, _, pr, br ++ [(⟨x.id, who, hx1', hwz⟩ : Pair2)], n10, hM9.out, by omega, hl9.out, by omega, by omega, hk9.out, hw9.out, hp9.out, hk8.out⟩
                  case measure => simp [intOf]; omega
                · skip
                  have HX := Lib.hid hm10
                  clear hm10 t0 t3
                  go_wp2_with fail
                  go_roundw
                  case rel => exact ⟨j + 1, by omega, by go_num, _, _, pr, br, n10, HX.out, by omega, by omega, by omega, by omega, hkq10, hw10, hp10, hkl10⟩
                  case measure => simp [intOf]; omega
                · skip
                  have hd0 : (r == 0) = false := by simp; omega
                  have hd3 : decide (r < 3) = true := by simp; omega
                  have HC := Lib.hid (contains_any aa xa ac x.authors who w10 ((HSA.out).mono RStr.ok (G := fun _ => True) (fun _ _ => trivial)) (by omega))
                  cases hmem : memB who x.authors with
                  | true =>
                    rw [hmem] at HC
                    clear hmem
                    have HX := Lib.hid hm10
                    clear hm10 t0 hr
                    go_wp2_with fail
                    refine HC.out.mono ?_
                    rintro e wz ⟨rfl, hh⟩
                    subst hh
                    clear HC
                    go_wp2_with fail
                    go_roundw
                    case rel => exact ⟨j + 1, by omega, by go_num, _, _, pr, br, n10, HX.out, by omega, by omega, by omega, by omega, hkq10, hw10, hp10, hkl10⟩
                    case measure => simp [intOf]; omega
                  | false =>
                    rw [hmem] at HC
                    clear hmem hr
                    go_wp2_with fail
                    refine HC.out.mono ?_
                    rintro e wz ⟨rfl, hh⟩
                    subst hh
                    clear HC
                    have HM10 := Lib.hid hm10
                    obtain ⟨ag, cg, hvg, -⟩ := hm10.acc.a2.form
                    obtain ⟨lg, hlg⟩ : ∃ l, l = pr.length := ⟨_, rfl⟩
                    have HLG := Lib.hid hlg
                    rw [← hlg] at hvg
                    subst hvg
                    have acg := hm10.acc.a2
                    have hbk := hm10.blk
                    have hrbk := hm10.rblk
                    have hz0 := hm10.bt.size
                    have hzE := hkq10.size
                    clear hm10 hlg
                    have f1 := cell_at (i := 2) hbk rfl
                    have hown : ∀ k, (Value.slice ag lg cg).ownBlock = some k → wE.heap.size ≤ k := fun k hk => (acg.lt k hk).1
                    go_wp2_with (at_builtin; refine wp_append1 RPair.ok _ rfl _ _ 28 rfl wE.heap.size 39 (.agg #[.string ⟨#[]⟩, .string ⟨#[]⟩]) 2 32 Tryz.underlying28 (by kernel_rfl) rfl (by decide) (fun _ => False) _ pr rfl (acg.keepAll RPair.ok (Kept.alloc _ _ _)) ⟨_, 0, none⟩ 1 [.string x.id, .string who] rfl rfl (World.news_of_block (cs := #[.string x.id, .string who]) (heap_alloc_new w10 _)) (by simp [Value.oneCell']) ⟨x.id, who, hx1', hwz⟩ rfl (by have := HLG.out; omega) (by decide) (by simp; omega) ?_)
                    intro p' c' w9 hacc9 hg9 hat9
                    rw [← HLG.out] at hacc9 hat9 ⊢
                    have hkA : All w10 (w10.alloc (.cells #[.string x.id, .string who] 39)) := Kept.alloc _ _ _
                    have hA9 := HM10.out.acc.grow2 hkA hg9 (hat9.imp (fun h => h) (fun e => by rw [e]; simp)) hacc9
                    have hgk : ∃ g, (∀ k, (Value.slice ag lg cg).ownBlock = some k → k = g) ∧ w0.heap.size ≤ g ∧ g ≠ bb ∧ g ≠ rb ∧ wE.heap.size ≤ g ∧ g ≠ wq.heap.size ∧ g ≠ tb := by
                      cases ag with
                      | none =>
                        refine ⟨w10.heap.size, fun k h => (by cases h), by omega, ?_, ?_, by omega, ?_, ?_⟩
                        · have := (Array.getElem?_eq_some_iff.1 hbk).1; omega
                        · have := (Array.getElem?_eq_some_iff.1 hrbk).1; omega
                        · have := (Array.getElem?_eq_some_iff.1 hw10).1; omega
                        · have := (Array.getElem?_eq_some_iff.1 hp10).1; omega
                      | some g => exact ⟨g.block, fun k h => (Option.some.inj h).symm, by have := hown _ rfl; omega, acg.notType hbk (by decide) _ rfl, acg.notType hrbk (by decide) _ rfl, hown _ rfl, acg.notType hw10 (by decide) _ rfl, acg.notType hp10 (by decide) _ rfl⟩
                    obtain ⟨g, hg1, hg2, hg3, hg4, hg5, hg6, hg7⟩ := hgk
                    have hkg := grown_kept hkA hg9 g hg1
                    have hM9 := Lib.hid (HM10.out.put (i := 2) (u := .slice p' (lg + 1) c') hkg hg2 hg3 hg4 hA9 rfl (setC_noStr HM10.out.acc.a0.noStr HM10.out.acc.a1.noStr HM10.out.acc.a2.noStr HM10.out.acc.a3.noStr HM10.out.acc.a4.noStr))
                    have hb9 := hkg.heap hbk (fun e => hg3 e.symm)
                    have f9 := cell_at (i := 2) hb9 rfl
                    have g9 := frozen_at (i := 2) hb9
                    have hk9 := Lib.hid ((hkq10.trans2 hkg (fun i _ hi e => by omega)).then_setCell ⟨bb, 2, none⟩ (.slice p' (lg + 1) c') (fun h => h.2 rfl))
                    have hk8 := Lib.hid ((hkl10.trans2 hkg (fun i _ hi e => by omega)).then_setCell ⟨bb, 2, none⟩ (.slice p' (lg + 1) c') (fun h => h.2 rfl))
                    have kS : Kept (fun k => k ≠ bb) w9 (w9.setCell ⟨bb, 2, none⟩ (.slice p' (lg + 1) c')) := Kept.setCell _ _ _ (fun h => h rfl)
                    have hw9 := Lib.hid (kS.heap (hkg.heap hw10 (fun e => hg6 e.symm)) (by omega))
                    have hp9 := Lib.hid (kS.heap (hkg.heap hp10 (fun e => hg7 e.symm)) (by omega))
                    have hl9 := Lib.hid (show (pr ++ [(⟨x.id, who, hx1', hwz⟩ : Pair2)]).length ≤ 4 * k + (j + 1) from by simp; have := HLG.out; omega)
                    clear hacc9 hat9 hg9 hA9 hkg hg1 hg2 hg3 hg4 hg5 hg6 hg7 hb9 hbk hrbk acg hkq10 hkl10 hown hkA hw10 hp10 t0 t3 kS
                    go_wp2_with fail
                    go_roundw
                    case rel => exact ⟨j + 1, by omega, by go_num, _, _, pr ++ [(⟨x.id, who, hx1', hwz⟩ : Pair2)], br, n10, hM9.out, hl9.out, by omega, by omega, by omega, hk9.out, hw9.out, hp9.out, hk8.out⟩
                    case measure => simp [intOf]; omega
          case neg =>
            have hdk : decide ((k : Int) < (mq : Int)) = false := by simp; omega
            obtain ⟨a2, c2, rfl, -⟩ := hm.acc.a2.form
            obtain ⟨a3, c3, rfl, -⟩ := hm.acc.a3.form
            have hbk := hm.blk
            have hrbk := hm.rblk
            have HM := Lib.hid hm
            have h2 := hm.h2
            have h3 := hm.h3
            have hst := hm.st
            have hbt := hm.bt
            obtain ⟨l2, hl2⟩ : ∃ l, l = pr.length := ⟨_, rfl⟩
            obtain ⟨l3, hl3⟩ : ∃ l, l = br.length := ⟨_, rfl⟩
            have HL2 := Lib.hid hl2
            have HL3 := Lib.hid hl3
            rw [← hl2] at hbk HM hprl
            rw [← hl3] at hbk HM hbrl
            clear hm hl2 hl3
            have hke : Kept (fun k => k ≠ rb) wo (((((((wo.setCell ⟨rb, 0, none⟩ (.slice a0 l0 c0)).setCell ⟨rb, 1, none⟩ (.slice a1 mq c1)).setCell ⟨rb, 2, none⟩ (.slice a2 l2 c2)).setCell ⟨rb, 3, none⟩ (.slice a3 l3 c3)).setCell ⟨rb, 4, none⟩ (.slice a4 l4 c4)).setCell ⟨rb, 5, none⟩ (.int .i64 due)).setCell ⟨rb, 6, none⟩ (.int .i64 rep)) := (((((((Kept.refl _ _).then_setCell _ _ (fun h => h rfl)).then_setCell _ _ (fun h => h rfl)).then_setCell _ _ (fun h => h rfl)).then_setCell _ _ (fun h => h rfl)).then_setCell _ _ (fun h => h rfl)).then_setCell _ _ (fun h => h rfl)).then_setCell _ _ (fun h => h rfl)
            have hrn : NoStr wo rb := NoStr.of hrbk (by intro v hv z; simp at hv; rcases hv with rfl | rfl | rfl <;> exact fun h => by cases h)
            have hac := Lib.hid (HM.out.acc.past hrbk hrn hke (by decide) (by decide) (by decide) (by decide))
            have hfs := Lib.hid (((((((hst.set ⟨rb, 0, none⟩ (.slice a0 l0 c0) (by dsimp only; omega)).set ⟨rb, 1, none⟩ (.slice a1 mq c1) (by dsimp only; omega)).set ⟨rb, 2, none⟩ (.slice a2 l2 c2) (by dsimp only; omega)).set ⟨rb, 3, none⟩ (.slice a3 l3 c3) (by dsimp only; omega)).set ⟨rb, 4, none⟩ (.slice a4 l4 c4) (by dsimp only; omega)).set ⟨rb, 5, none⟩ (.int .i64 due) (by dsimp only; omega)).set ⟨rb, 6, none⟩ (.int .i64 rep) (by dsimp only; omega))
            have hfw := Lib.hid (((((((hbt.then_setNew ⟨rb, 0, none⟩ (.slice a0 l0 c0) (by dsimp only; omega)).then_setNew ⟨rb, 1, none⟩ (.slice a1 mq c1) (by dsimp only; omega)).then_setNew ⟨rb, 2, none⟩ (.slice a2 l2 c2) (by dsimp only; omega)).then_setNew ⟨rb, 3, none⟩ (.slice a3 l3 c3) (by dsimp only; omega)).then_setNew ⟨rb, 4, none⟩ (.slice a4 l4 c4) (by dsimp only; omega)).then_setNew ⟨rb, 5, none⟩ (.int .i64 due) (by dsimp only; omega)).then_setNew ⟨rb, 6, none⟩ (.int .i64 rep) (by dsimp only; omega))
            have hsz : wo.heap.size ≤ (((((((wo.setCell ⟨rb, 0, none⟩ (.slice a0 l0 c0)).setCell ⟨rb, 1, none⟩ (.slice a1 mq c1)).setCell ⟨rb, 2, none⟩ (.slice a2 l2 c2)).setCell ⟨rb, 3, none⟩ (.slice a3 l3 c3)).setCell ⟨rb, 4, none⟩ (.slice a4 l4 c4)).setCell ⟨rb, 5, none⟩ (.int .i64 due)).setCell ⟨rb, 6, none⟩ (.int .i64 rep)).heap.size := hke.size
            have hszE := hkq.size
            have HSZ := Lib.hid (show wE.heap.size ≤ (((((((wo.setCell ⟨rb, 0, none⟩ (.slice a0 l0 c0)).setCell ⟨rb, 1, none⟩ (.slice a1 mq c1)).setCell ⟨rb, 2, none⟩ (.slice a2 l2 c2)).setCell ⟨rb, 3, none⟩ (.slice a3 l3 c3)).setCell ⟨rb, 4, none⟩ (.slice a4 l4 c4)).setCell ⟨rb, 5, none⟩ (.int .i64 due)).setCell ⟨rb, 6, none⟩ (.int .i64 rep)).heap.size by omega)
            have j0 := heap_setCell_at wo rb 0 (.slice a0 l0 c0) _ _ _ hrbk
            have j1 := heap_setCell_at (wo.setCell ⟨rb, 0, none⟩ (.slice a0 l0 c0)) rb 1 (.slice a1 mq c1) _ _ _ j0
            have j2 := heap_setCell_at ((wo.setCell ⟨rb, 0, none⟩ (.slice a0 l0 c0)).setCell ⟨rb, 1, none⟩ (.slice a1 mq c1)) rb 2 (.slice a2 l2 c2) _ _ _ j1
            have j3 := heap_setCell_at (((wo.setCell ⟨rb, 0, none⟩ (.slice a0 l0 c0)).setCell ⟨rb, 1, none⟩ (.slice a1 mq c1)).setCell ⟨rb, 2, none⟩ (.slice a2 l2 c2)) rb 3 (.slice a3 l3 c3) _ _ _ j2
            have j4 := heap_setCell_at ((((wo.setCell ⟨rb, 0, none⟩ (.slice a0 l0 c0)).setCell ⟨rb, 1, none⟩ (.slice a1 mq c1)).setCell ⟨rb, 2, none⟩ (.slice a2 l2 c2)).setCell ⟨rb, 3, none⟩ (.slice a3 l3 c3)) rb 4 (.slice a4 l4 c4) _ _ _ j3
            have j5 := heap_setCell_at (((((wo.setCell ⟨rb, 0, none⟩ (.slice a0 l0 c0)).setCell ⟨rb, 1, none⟩ (.slice a1 mq c1)).setCell ⟨rb, 2, none⟩ (.slice a2 l2 c2)).setCell ⟨rb, 3, none⟩ (.slice a3 l3 c3)).setCell ⟨rb, 4, none⟩ (.slice a4 l4 c4)) rb 5 (.int .i64 due) _ _ _ j4
            have j6 := heap_setCell_at ((((((wo.setCell ⟨rb, 0, none⟩ (.slice a0 l0 c0)).setCell ⟨rb, 1, none⟩ (.slice a1 mq c1)).setCell ⟨rb, 2, none⟩ (.slice a2 l2 c2)).setCell ⟨rb, 3, none⟩ (.slice a3 l3 c3)).setCell ⟨rb, 4, none⟩ (.slice a4 l4 c4)).setCell ⟨rb, 5, none⟩ (.int .i64 due)) rb 6 (.int .i64 rep) _ _ _ j5
            have hfin : (((((((wo.setCell ⟨rb, 0, none⟩ (.slice a0 l0 c0)).setCell ⟨rb, 1, none⟩ (.slice a1 mq c1)).setCell ⟨rb, 2, none⟩ (.slice a2 l2 c2)).setCell ⟨rb, 3, none⟩ (.slice a3 l3 c3)).setCell ⟨rb, 4, none⟩ (.slice a4 l4 c4)).setCell ⟨rb, 5, none⟩ (.int .i64 due)).setCell ⟨rb, 6, none⟩ (.int .i64 rep)).heap[rb]? = some (.cells #[.slice a0 l0 c0, .slice a1 mq c1, .slice a2 l2 c2, .slice a3 l3 c3, .slice a4 l4 c4, .int .i64 due, .int .i64 rep] 31 (0, 0)) := by simpa using j6
            clear j0 j1 j2 j3 j4 j5 j6
            have e0 := cell_at (i := 0) hbk rfl
            have e1 := cell_at (i := 1) hbk rfl
            have e2 := cell_at (i := 2) hbk rfl
            have e3 := cell_at (i := 3) hbk rfl
            have e4 := cell_at (i := 4) hbk rfl
            have e5 := cell_at (i := 5) hbk rfl
            have e6 := cell_at (i := 6) hbk rfl
            have y0 := cell_at (i := 0) hrbk rfl
            have y1 := cell_at (i := 1) hrbk rfl
            have y2 := cell_at (i := 2) hrbk rfl
            have y3 := cell_at (i := 3) hrbk rfl
            have y4 := cell_at (i := 4) hrbk rfl
            have y5 := cell_at (i := 5) hrbk rfl
            have y6 := cell_at (i := 6) hrbk rfl
            have z0 := frozen_at (i := 0) hrbk
            have z1 := frozen_at (i := 1) hrbk
            have z2 := frozen_at (i := 2) hrbk
            have z3 := frozen_at (i := 3) hrbk
            have z4 := frozen_at (i := 4) hrbk
            have z5 := frozen_at (i := 5) hrbk
            have z6 := frozen_at (i := 6) hrbk
            have q0 := cell_at (i := 0) hfin rfl
            have q1 := cell_at (i := 1) hfin rfl
            have q2 := cell_at (i := 2) hfin rfl
            have q3 := cell_at (i := 3) hfin rfl
            have q4 := cell_at (i := 4) hfin rfl
            have q5 := cell_at (i := 5) hfin rfl
            have q6 := cell_at (i := 6) hfin rfl
            have hbounds := Lib.hid (show xs.length ≤ 5 ∧ qs.length ≤ 3 ∧ pr.length ≤ 12 ∧ br.length ≤ 12 ∧ cs.length ≤ 2 from ⟨by have := HL0.out; omega, by have := HMQ.out; omega, by have := HL2.out; omega, by have := HL3.out; omega, htlen⟩)
            clear hke hfin hbk hrbk hst hbt hkq hrn hsz
            go_wp2_with fail
            refine bodyPost_ret (v := .agg #[.slice a0 l0 c0, .slice a1 mq c1, .slice a2 l2 c2, .slice a3 l3 c3, .slice a4 l4 c4, .int .i64 due, .int .i64 rep]) ?_ rfl ⟨_, n', rfl, ⟨_, _, _, _, _, ⟨xs, qs, pr, br, cs, due, rep⟩, _, _, rfl, hac.out, HSZ.out, hbounds.out⟩, by omega, by omega, hfs.out, hfw.out⟩
            simp [results, Tryz.results138, go_sem, q0, q1, q2, q3, q4, q5, q6]
end Go.Proofs.YtjbaijgdkkccbaaGreatDoor
