/- An erratum in the making. No program in sight but types. -/
import Derived.Test.YteanedcfiellkaaDoorEa
import Derived.Test.YteanedcfiellkaaDoorZc
namespace Go.Proofs.YteanedcfiellkaaDoor
open Go.RowKit

abbrev EBlk (eb : Nat) (x : Err5) (w : World) : Prop := w.heap[eb]? = some (.cells #[.string x.paper, .int .i64 x.field, .string x.key, .string x.old, .string x.new] 124 (0, 0))
abbrev FBlk (fb : Nat) (f : Fin4) (ac : Option Addr) (cc : Nat) (w : World) : Prop := w.heap[fb]? = some (.cells #[.string f.paper, .string f.title, .int .i64 f.pages, .slice ac f.credits.length cc] 65 (0, 0))
/-- An erratum in block eb; nothing that was there in w0 has changed but the stream. -/
def MakingE (σ : St) (eb n c : Nat) (w0 w : World) : Prop := ∃ x n', EBlk eb x w ∧ ErrSmall x ∧ Str σ w n' ∧ n ≤ n' ∧ n' ≤ n + c ∧ But σ.b w0 w
section
variable {σ : St} {eb n c n' : Nat} {x : Err5} {w0 w W w5 : World}
theorem MakingE.keep (h : MakingE σ eb n c w0 w) (hk : All w W) : MakingE σ eb n c w0 W := by
  obtain ⟨x, n', h1, h2, h3, h4, h5, h6⟩ := h
  exact ⟨x, n', hk.heap h1 trivial, h2, h3.keep hk, h4, h5, h6.trans (Kept.all hk)⟩
theorem MakingE.mono {c' : Nat} (h : MakingE σ eb n c w0 w) (hc : c ≤ c') : MakingE σ eb n c' w0 w := by
  obtain ⟨x, n', h1, h2, h3, h4, h5, h6⟩ := h
  exact ⟨x, n', h1, h2, h3, h4, by omega, h6⟩
theorem EStep (hσ : σ.b < eb) (hblk : EBlk eb x w) (hk : But σ.b w0 w) (hW : All w W) (hb5 : But σ.b W w5) : EBlk eb x w5 ∧ But σ.b w0 w5 :=
  ⟨hb5.heap (hW.heap hblk trivial) (by omega), (hk.trans (Kept.all hW)).trans hb5⟩
theorem EBlk.set {x' : Err5} {j : Nat} {v : Value} (h : EBlk eb x w) (hx : (#[.string x.paper, .int .i64 x.field, .string x.key, .string x.old, .string x.new] : Array Value).setIfInBounds j v = #[.string x'.paper, .int .i64 x'.field, .string x'.key, .string x'.old, .string x'.new]) : EBlk eb x' (w.setCell ⟨eb, j, none⟩ v) := by
  unfold EBlk
  rw [heap_setCell_at _ _ _ _ _ _ _ h, hx]
theorem MakingE.put (hσ : σ.b < eb) (h0 : w0.heap.size ≤ eb) (hblk : EBlk eb x w) (hs : Str σ w n') (hk : But σ.b w0 w) (h1 : n ≤ n') (h2 : n' ≤ n + c) {j : Nat} {v : Value} (x' : Err5)
    (hx : (#[.string x.paper, .int .i64 x.field, .string x.key, .string x.old, .string x.new] : Array Value).setIfInBounds j v = #[.string x'.paper, .int .i64 x'.field, .string x'.key, .string x'.old, .string x'.new]) (hsm : ErrSmall x') : MakingE σ eb n c w0 (w.setCell ⟨eb, j, none⟩ v) :=
  ⟨x', n', hblk.set hx, hsm, hs.set _ _ hσ, h1, h2, hk.then_setNew _ _ h0⟩
theorem MakingE.make (hσ : σ.b < eb) (h0 : w0.heap.size ≤ eb) (hz : w.heap[eb]? = some (.cells #[.string ⟨#[]⟩, .int .i64 0, .string ⟨#[]⟩, .string ⟨#[]⟩, .string ⟨#[]⟩] 124 (0, 0))) (hs : Str σ w n') (hk : But σ.b w0 w) (h1 : n ≤ n') (h2 : n' ≤ n + c) (x : Err5) (hsm : ErrSmall x) :
    MakingE σ eb n c w0 (((((w.setCell ⟨eb, 0, none⟩ (.string x.paper)).setCell ⟨eb, 1, none⟩ (.int .i64 x.field)).setCell ⟨eb, 2, none⟩ (.string x.key)).setCell ⟨eb, 3, none⟩ (.string x.old)).setCell ⟨eb, 4, none⟩ (.string x.new)) := by
  have hb : EBlk eb ⟨⟨#[]⟩, 0, ⟨#[]⟩, ⟨#[]⟩, ⟨#[]⟩⟩ w := hz
  exact MakingE.put hσ h0 ((((hb.set (x' := ⟨x.paper, 0, ⟨#[]⟩, ⟨#[]⟩, ⟨#[]⟩⟩) rfl).set (x' := ⟨x.paper, x.field, ⟨#[]⟩, ⟨#[]⟩, ⟨#[]⟩⟩) rfl).set (x' := ⟨x.paper, x.field, x.key, ⟨#[]⟩, ⟨#[]⟩⟩) rfl).set (x' := ⟨x.paper, x.field, x.key, x.old, ⟨#[]⟩⟩) rfl) ((((hs.set _ _ hσ).set _ _ hσ).set _ _ hσ).set _ _ hσ) ((((hk.then_setNew _ _ h0).then_setNew _ _ h0).then_setNew _ _ h0).then_setNew _ _ h0) h1 h2 x rfl hsm
theorem MakingE.put2 (hσ : σ.b < eb) (h0 : w0.heap.size ≤ eb) (hblk : EBlk eb x w) (hs : Str σ w n') (hk : But σ.b w0 w) (h1 : n ≤ n') (h2 : n' ≤ n + c) {s t : ByteArray} (hsm : ErrSmall x) (h3 : s.size ≤ 1000000) (h4 : t.size ≤ 1000000) :
    MakingE σ eb n c w0 ((w.setCell ⟨eb, 3, none⟩ (.string s)).setCell ⟨eb, 4, none⟩ (.string t)) :=
  MakingE.put hσ h0 (hblk.set (x' := { x with old := s }) rfl) (hs.set _ _ hσ) (hk.then_setNew _ _ h0) h1 h2 { x with old := s, new := t } rfl ⟨hsm.1, hsm.2.1, hsm.2.2.1, h3, h4⟩
theorem MakingE.put4 (hσ : σ.b < eb) (h0 : w0.heap.size ≤ eb) (hblk : EBlk eb x w) (hs : Str σ w n') (hk : But σ.b w0 w) (h1 : n ≤ n') (h2 : n' ≤ n + c) {q s t : ByteArray} (hsm : ErrSmall x) (h5 : q.size ≤ 1000000) (h3 : s.size ≤ 1000000) (h4 : t.size ≤ 1000000) :
    MakingE σ eb n c w0 ((((w.setCell ⟨eb, 1, none⟩ (.int .i64 2)).setCell ⟨eb, 2, none⟩ (.string q)).setCell ⟨eb, 3, none⟩ (.string s)).setCell ⟨eb, 4, none⟩ (.string t)) :=
  MakingE.put hσ h0 (((hblk.set (x' := { x with field := 2 }) rfl).set (x' := { x with field := 2, key := q }) rfl).set (x' := { x with field := 2, key := q, old := s }) rfl) (((hs.set _ _ hσ).set _ _ hσ).set _ _ hσ) (((hk.then_setNew _ _ h0).then_setNew _ _ h0).then_setNew _ _ h0) h1 h2 { x with field := 2, key := q, old := s, new := t } rfl ⟨hsm.1, by dsimp only; omega, h5, h3, h4⟩
end
abbrev CBlk (cb : Nat) (y : Cred) (w : World) : Prop := w.heap[cb]? = some (.cells #[.string y.key, .string y.name] 107 (0, 0))
/-- A credit that was drawn lies in block cb, beside the erratum in the making. -/
def WithC (σ : St) (eb n c : Nat) (w0 : World) (cb : Nat) (w : World) : Prop := ∃ y : Cred, CBlk cb y w ∧ y.key.size ≤ 1000000 ∧ y.name.size ≤ 1000000 ∧ MakingE σ eb n c w0 w ∧ w0.heap.size ≤ cb ∧ cb ≠ eb
theorem WithC.keep {σ : St} {eb n c cb : Nat} {w0 w W : World} (h : WithC σ eb n c w0 cb w) (hk : All w W) : WithC σ eb n c w0 cb W := by
  obtain ⟨y, h1, h2, h3, h4, h5, h6⟩ := h
  exact ⟨y, hk.heap h1 trivial, h2, h3, h4.keep hk, h5, h6⟩
theorem WithC.make {σ : St} {eb n c n' cb : Nat} {x : Err5} {w0 w : World} (hc : σ.b < cb) (h0 : w0.heap.size ≤ cb) (hne : cb ≠ eb) (hz : w.heap[cb]? = some (.cells #[.string ⟨#[]⟩, .string ⟨#[]⟩] 107 (0, 0))) (hblk : EBlk eb x w) (hsm : ErrSmall x) (hs : Str σ w n') (hk : But σ.b w0 w) (h1 : n ≤ n') (h2 : n' ≤ n + c) (y : Cred) (hy1 : y.key.size ≤ 1000000) (hy2 : y.name.size ≤ 1000000) :
    WithC σ eb n c w0 cb ((w.setCell ⟨cb, 0, none⟩ (.string y.key)).setCell ⟨cb, 1, none⟩ (.string y.name)) := by
  refine ⟨y, heap_setCell_at _ _ _ _ _ _ _ (heap_setCell_at _ _ _ _ _ _ _ hz), hy1, hy2, ⟨x, n', ?_, hsm, (hs.set _ _ hc).set _ _ hc, h1, h2, (hk.then_setNew _ _ h0).then_setNew _ _ h0⟩, h0, hne⟩
  exact Kept.heap (Kept.setCell (F := fun k => k ≠ cb) _ _ _ (by simp)) (Kept.heap (Kept.setCell (F := fun k => k ≠ cb) w _ _ (by simp)) hblk (Ne.symm hne)) (Ne.symm hne)
theorem WithC.fresh {σ : St} {eb n c n' : Nat} {x : Err5} {w0 w : World} (hblk : EBlk eb x w) (hsm : ErrSmall x) (hs : Str σ w n') (hk : But σ.b w0 w) (h1 : n ≤ n') (h2 : n' ≤ n + c) (y : Cred) (hy1 : y.key.size ≤ 1000000) (hy2 : y.name.size ≤ 1000000) :
    WithC σ eb n c w0 w.heap.size (w.alloc (.cells #[.string y.key, .string y.name] 107)) := by
  have hl : eb < w.heap.size := by rcases Array.getElem?_eq_some_iff.1 hblk with ⟨h, _⟩; exact h
  exact ⟨y, heap_at _ _ _ rfl, hy1, hy2, ⟨x, n', heap_old _ hblk, hsm, hs.keep (Kept.alloc _ _ _), h1, h2, hk.then_alloc _⟩, hk.size, by omega⟩
theorem heap_atd (w : World) (o : Obj) (b : Nat) (h : b = w.heap.size) : (w.alloc o).drew.heap[b]? = some o := heap_at w o b h
theorem heap_oldd {w : World} {b : Nat} {o : Obj} (o' : Obj) (h : w.heap[b]? = some o) : (w.alloc o').drew.heap[b]? = some o := heap_old o' h
theorem hp0 (w : World) (o : Obj) : (w.alloc o).heap[w.heap.size]? = some o := heap_at w o _ rfl
theorem hp1 (w : World) (o o' : Obj) : ((w.alloc o').alloc o).heap[w.heap.size + 1]? = some o := heap_at _ o _ (by simp)
theorem hpo (w : World) (o o' : Obj) : ((w.alloc o).alloc o').heap[w.heap.size]? = some o := heap_old _ (heap_at w o _ rfl)
theorem hd0 (w : World) (o : Obj) : (w.alloc o).drew.heap[w.heap.size]? = some o := heap_at w o _ rfl
theorem hd1 (w : World) (o o' : Obj) : ((w.alloc o').alloc o).drew.heap[w.heap.size + 1]? = some o := heap_at _ o _ (by simp)
theorem hdo (w : World) (o o' : Obj) : ((w.alloc o).alloc o').drew.heap[w.heap.size]? = some o := heap_old _ (heap_at w o _ rfl)
theorem zLate {b0 : Nat} {w w5 : World} {S Z : Obj} (hb : But b0 ((w.alloc S).alloc Z).drew w5) (h : w.heap.size + 1 ≠ b0) : w5.heap[w.heap.size + 1]? = some Z := hb.heap (heap_atd _ _ _ (by simp)) h
theorem zEarly {b0 : Nat} {w w5 : World} {S Z : Obj} (hb : But b0 ((w.alloc Z).alloc S).drew w5) (h : w.heap.size ≠ b0) : w5.heap[w.heap.size]? = some Z := hb.heap (heap_oldd _ (heap_at _ _ _ rfl)) h
theorem zOnly {b0 : Nat} {w w5 : World} {Z : Obj} (hb : But b0 (w.alloc Z).drew w5) (h : w.heap.size ≠ b0) : w5.heap[w.heap.size]? = some Z := hb.heap (heap_atd _ _ _ rfl) h
def IsErrs (σ : St) (v : Value) (w : World) : Prop := ∃ a cap es, v = .slice a es.length cap ∧ es.length ≤ 4 ∧ Sl RErr 5 (fun k => k ≠ σ.b) w a es.length es
end Go.Proofs.YteanedcfiellkaaDoor
