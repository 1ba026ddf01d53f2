/- What RightWorld keeps: no program in sight. -/
import Derived.Test.YtgobnlgmbplggaaGreatDoorD3
import Derived.Test.YtgobnlgmbplggaaGreatDoorD5
import Derived.Test.YtgobnlgmbplggaaGreatDoorU7
import Derived.Test.YtgobnlgmbplggaaGreatDoorZd
namespace Go.Proofs.YtgobnlgmbplggaaGreatDoor
open Go.RowKit

section
variable {σ : St} {B : Nat} {N N' N'' : Nat → Nat} {n c d m m' : Nat} {w0 w w' : World}
theorem GenX.go (h : GenX σ B N N' n c w0 w m) (hσ : σ.b < B) (hk : Kept (fun b => b < B) w w') (hg : Goes Θw B N' w N'' w') : GenX σ B N N'' n c w0 w' m :=
  ⟨h.st.kept hk (fun j hj => by omega), h.lo, h.hi, h.kp.trans2 hk (fun x _ hx => hx.1), h.goes.trans hg, Nat.le_trans h.lt hk.size⟩
theorem GenX.call (h : GenX σ B N N' n c w0 w m) (hσ : σ.b < B) (hb : But σ.b w w') (hs : Str σ w' m') (h1 : m ≤ m') (h2 : m' ≤ m + d) : GenX σ B N N' n (c + d) w0 w' m' :=
  ⟨hs, Nat.le_trans h.lo h1, by have := h.hi; omega, h.kp.trans2 hb (fun _ _ hx => hx.2), h.goes.trans (Goes.but hb hσ), Nat.le_trans h.lt hb.size⟩
theorem GenX.alls (h : GenX σ B N N' n c w0 w m) (hσ : σ.b < B) (hk : All w w') : GenX σ B N N' n c w0 w' m := h.go hσ (hk.mono (fun _ _ => trivial)) (Goes.all hk)
theorem GenX.gen (h : GenX σ B N N' n c w0 w m) (h' : GenX σ B N' N'' m d w w' m') : GenX σ B N N'' n (c + d) w0 w' m' :=
  ⟨h'.st, Nat.le_trans h.lo h'.lo, by have := h.hi; have := h'.hi; omega, h.kp.trans h'.kp, h.goes.trans h'.goes, h'.lt⟩
theorem GenW.x (h : GenW σ B N N' n c w w' m) (hB : B ≤ w.heap.size) : GenX σ B N N' n c w w' m := ⟨h.st, h.lo, h.hi, h.kp, h.goes, Nat.le_trans hB h.kp.size⟩
/-- A cell of a typed block, stored. -/
theorem TB.put {b k q j : Nat} {f : Fd} {u : Value} (h : TB Θw B N w b k q) (hf : (Θw.fds k)[j % Θw.sz k]? = some f) (hu : Gd Θw B N w f u) (hk : k < 9 := by decide) : Kept (fun x => x < B) w (w.setCell ⟨b, j, none⟩ u) ∧ Goes Θw B N w N (w.setCell ⟨b, j, none⟩ u) :=
  ⟨Kept.setCell _ _ _ (by have := h.low; dsimp only; omega), Goes.set (wSep k hk) h hf hu⟩
end
section
variable {B : Nat} {N N' : Nat → Nat} {w w' : World} {k n0 m0 c0 : Nat} {a0 : Option Addr} {v' : Value}
/-- An append keeps blocks of another type. -/
theorem appOther (hv : Gd Θw B N w (.sl k) (.slice a0 n0 c0)) {b : Nat} {c : Array Value} {T : TypeId} {fz : Nat × Nat} (hb : w.heap[b]? = some (.cells c T fz)) (hT : T ≠ wTy k) : 0 < c0 → ∀ ad, a0 = some ad → b ≠ ad.block := by
  rintro hc ad rfl rfl
  rcases hv with ⟨a, e⟩ | ⟨g, n, cap, e, hg, -⟩
  · cases e; omega
  · cases e
    obtain ⟨x, h1, -⟩ := hg.ok
    rw [hb] at h1
    injection h1 with h1
    injection h1 with _ h1
    exact hT h1
theorem appHeap (hv : Gd Θw B N w (.sl k) (.slice a0 n0 c0)) (hA : AppTB Θw B N N' w k a0 c0 n0 m0 v' w') {b : Nat} {c : Array Value} {T : TypeId} {fz : Nat × Nat} (hb : w.heap[b]? = some (.cells c T fz)) (hT : T ≠ wTy k) : w'.heap[b]? = some (.cells c T fz) :=
  hA.kept.heap hb (appOther hv hb hT)
theorem appCell (hv : Gd Θw B N w (.sl k) (.slice a0 n0 c0)) (hA : AppTB Θw B N N' w k a0 c0 n0 m0 v' w') {b k' m o : Nat} {u : Value} (hP : TB Θw B N w b k' m) (hT : wTy k' ≠ wTy k) (hc : w.cell? ⟨b, o, none⟩ = some u) : w'.cell? ⟨b, o, none⟩ = some u := by
  obtain ⟨x, h1, -⟩ := hP.ok
  exact hA.kept.cell hc (appOther hv h1 hT)
end
/-- Bounds of rows: 8 and some; of works and bonds fewer. -/
def Nb (N : Nat → Nat) (p q : Nat) : Prop := ∀ x, 8 ≤ N x ∧ N x ≤ 8 + p ∧ (x = 6 ∨ x = 4 → N x ≤ 8 + q)
theorem Nb.up {N : Nat → Nat} {p q k : Nat} (h : Nb N p q) (h6 : k ≠ 6) (h4 : k ≠ 4) : Nb (up N k) (p + 1) q := by
  intro x
  obtain ⟨h1, h2, h3⟩ := h x
  by_cases e : x = k
  · subst e
    rw [up_at]
    exact ⟨by omega, by omega, fun h => by omega⟩
  · rw [up_ne e]
    exact ⟨h1, by omega, h3⟩
theorem Nb.up1 {N : Nat → Nat} {p q k : Nat} (h : Nb N p q) : Nb (Go.Proofs.YtgobnlgmbplggaaGreatDoor.up N k) (p + 1) (q + 1) := by
  intro x
  obtain ⟨h1, h2, h3⟩ := h x
  have := up_lt N k x
  have := up_le N k x
  exact ⟨by omega, by omega, fun h => by have := h3 h; omega⟩
theorem Nb.mono {N : Nat → Nat} {p q p' q' : Nat} (h : Nb N p q) (hp : p ≤ p') (hq : q ≤ q') : Nb N p' q' := fun x => by
  obtain ⟨h1, h2, h3⟩ := h x
  exact ⟨h1, by omega, fun h => by have := h3 h; omega⟩
def ks0 : Array Value := #[.string ⟨#[97, 110, 110]⟩, .string ⟨#[98, 111, 98]⟩, .string ⟨#[99, 105, 100]⟩, .string ⟨#[100, 101, 101]⟩, .string ⟨#[101, 118, 101]⟩, .string ⟨#[102, 97, 121]⟩, .string ⟨#[103, 117, 115]⟩]
theorem keysAt {k : Nat} (h : k < 7) : ∃ s : ByteArray, ks0[k]? = some (.string s) ∧ s.size ≤ 3 := by
  have h : k = 0 ∨ k = 1 ∨ k = 2 ∨ k = 3 ∨ k = 4 ∨ k = 5 ∨ k = 6 := by omega
  rcases h with rfl | rfl | rfl | rfl | rfl | rfl | rfl <;> exact ⟨_, rfl, by decide⟩
def annB : ByteArray := ⟨#[65, 110, 110, 32, 76, 101, 101]⟩
/-- A name that is none, or none in its simple form. -/
def badN (w : World) (nb : Nat) : Nat := match w.cell? ⟨nb, 0, none⟩ with
  | some (.string s) => if s = ⟨#[]⟩ ∨ simB s = ⟨#[]⟩ then 1 else 0
  | _ => 0
theorem badN_ann {w : World} {nb : Nat} (h : w.cell? ⟨nb, 0, none⟩ = some (.string annB)) : badN w nb = 0 := by
  unfold badN
  rw [h]
  show (if annB = ⟨#[]⟩ ∨ simB annB = ⟨#[]⟩ then 1 else 0) = 0
  rw [if_neg]
  rw [show simB annB = ⟨#[97, 110, 110, 32, 108, 101, 101]⟩ from sim_ann]
  decide
theorem badN_bad {w : World} {nb : Nat} {s : ByteArray} (h : w.cell? ⟨nb, 0, none⟩ = some (.string s)) (hs : s = ⟨#[]⟩ ∨ simB s = ⟨#[]⟩) : badN w nb = 1 := by
  unfold badN
  rw [h]
  exact if_pos hs
theorem isEmpty_ne {s : ByteArray} (h : ¬ s = ⟨#[]⟩) : s.toList.isEmpty = false := by
  have := toList_ne (s := s) (fun e => h (by
    obtain ⟨d⟩ := s
    rw [Array.eq_empty_of_size_eq_zero (show d.size = 0 from e)]))
  cases hc : s.toList with
  | nil => exact absurd hc this
  | cons _ _ => rfl
def PIn (v : Value) (_ : World) : Prop := ∃ z : Int, v = .int .i64 z
theorem PIn.stays {B : Nat} {Ns : Nat → Nat} : Stays (fun w w' => Goes Θw B Ns w Ns w') PIn := fun _ _ _ _ h => h
theorem placeAtT_any {B : Nat} {N : Nat → Nat} {a : Option Addr} {n c : Nat} {s : ByteArray} {w : World} (h : Gd Θw B N w (.sl 1) (.slice a n c)) (hn : n ≤ 1000) :
    Calls Tryz.prog 28 #[.slice a n c, .string s] w fun e w' => (∃ z, e = .returned (.int .i64 z)) ∧ All w w' := by
  obtain ⟨xs, hs, -⟩ := h.plcs
  refine (placeAt_any a n c xs s w (hs.mono RPlc.ok (fun _ _ => trivial)) (by omega)).mono ?_
  rintro e w' ⟨rfl, hw⟩
  exact ⟨⟨_, rfl⟩, hw⟩

/-- An append keeps any block but the one that it writes into. -/
theorem appHeapNe {B : Nat} {N N' : Nat → Nat} {w w' : World} {k n0 m0 c0 : Nat} {a0 : Option Addr} {v' : Value} (hA : AppTB Θw B N N' w k a0 c0 n0 m0 v' w') {b : Nat} {o : Obj} (hb : w.heap[b]? = some o) (hne : ∀ ad, a0 = some ad → ad.block ≠ b) : w'.heap[b]? = some o :=
  hA.kept.heap hb (fun _ ad h => Ne.symm (hne ad h))
theorem appOwnNe {B : Nat} {N N' : Nat → Nat} {w w' : World} {k n0 m0 c0 l' c' : Nat} {a0 p' : Option Addr} (hA : AppTB Θw B N N' w k a0 c0 n0 m0 (.slice p' l' c') w') {b : Nat} (hb : b < w.heap.size) (hne : ∀ ad, a0 = some ad → ad.block ≠ b) : ∀ ad, p' = some ad → ad.block ≠ b := by
  rintro ad rfl
  rcases hA.own with ⟨-, h⟩ | h
  · cases a0 with
    | none => simp [Value.ownBlock] at h
    | some a => simp [Value.ownBlock] at h; rw [h]; exact hne a rfl
  · simp [Value.ownBlock] at h; omega
/-- A person under way. -/
structure PWay (σ : St) (B : Nat) (N0 N1 : Nat → Nat) (n c : Nat) (w0 wC : World) (kb pb p : Nat) (Q : Nat → Nat) (w : World) (m : Nat) : Prop where
  nb : Nb Q p 0
  gen : GenX σ B N0 Q n c w0 w m
  go : Goes Θw B N1 wC Q w
  keys : w.heap[kb]? = some (.cells ks0 9)
  tp : TB Θw B Q w pb 5 1
  ml : ∃ a l q, w.cell? ⟨pb, 3, none⟩ = some (.slice a l q) ∧ ∀ ad, a = some ad → ad.block ≠ kb
section
variable {σ : St} {B : Nat} {N0 N1 Q : Nat → Nat} {n c d kb pb p m m' : Nat} {w0 wC w w' : World}
theorem PWay.up (h : PWay σ B N0 N1 n c w0 wC kb pb p Q w m) {c' p' : Nat} (hc : c ≤ c') (hp : p ≤ p') : PWay σ B N0 N1 n c' w0 wC kb pb p' Q w m := ⟨h.nb.mono hp (Nat.le_refl _), h.gen.up hc, h.go, h.keys, h.tp, h.ml⟩
theorem PWay.flip (h : PWay σ B N0 N1 n c w0 wC kb pb p Q w m) (hσ : σ.b < B) (hks : kb ≠ σ.b) (hb : But σ.b w w') (hs : Str σ w' m') (h1 : m ≤ m') (h2 : m' ≤ m + d) : PWay σ B N0 N1 n (c + d) w0 wC kb pb p Q w' m' := by
  obtain ⟨a, l, q, h3, h4⟩ := h.ml
  have hlo := h.tp.low
  exact ⟨h.nb, h.gen.call hσ hb hs h1 h2, h.go.trans (Goes.but hb hσ), hb.heap h.keys hks, (Goes.but (Θ := Θw) (N := Q) hb hσ).tb _ _ _ h.tp, a, l, q, hb.cell h3 (by dsimp only; omega), h4⟩
theorem PWay.alls (h : PWay σ B N0 N1 n c w0 wC kb pb p Q w m) (hσ : σ.b < B) (hk : All w w') : PWay σ B N0 N1 n c w0 wC kb pb p Q w' m := by
  obtain ⟨a, l, q, h3, h4⟩ := h.ml
  exact ⟨h.nb, h.gen.alls hσ hk, h.go.trans (Goes.all hk), hk.heap h.keys trivial, (Goes.all (Θ := Θw) (N := Q) hk).tb _ _ _ h.tp, a, l, q, hk.cell h3 trivial, h4⟩
theorem PWay.apart (h : PWay σ B N0 N1 n c w0 wC kb pb p Q w m) : kb ≠ pb := fun e => by
  obtain ⟨x, h1, -⟩ := h.tp.ok
  rw [← e, h.keys] at h1
  injection h1 with h1
  injection h1 with _ h1
  exact absurd h1 (by decide)
theorem PWay.mails (h : PWay σ B N0 N1 n c w0 wC kb pb p Q w m) : ∃ a l q, w.cell? ⟨pb, 3, none⟩ = some (.slice a l q) ∧ l ≤ Q 0 ∧ Gd Θw B Q w (.sl 0) (.slice a l q) ∧ ∀ ad, a = some ad → ad.block ≠ kb := by
  obtain ⟨a, l, q, h3, h4⟩ := h.ml
  obtain ⟨a', l', q', h5, h6, h7⟩ := h.tp.ldL (i := 0) (j := 3) (o := 3) (by decide) rfl (by decide)
  rw [h3] at h5
  cases h5
  exact ⟨a, l, q, h3, h6, h7, h4⟩
theorem TB.cellT {b k q i j o : Nat} {f : Fd} (h : TB Θw B Q w b k q) (hi : i < q) (hf : (Θw.fds k)[j]? = some f) (ho : o = i * Θw.sz k + j) : ∃ v, w.cell? ⟨b, o, none⟩ = some v := by
  obtain ⟨v, h1, -⟩ := h.cell hi hf
  exact ⟨v, by rw [ho]; exact h1⟩
/-- A store into a cell of the person that is not the mails'. -/
theorem PWay.put (h : PWay σ B N0 N1 n c w0 wC kb pb p Q w m) (hσ : σ.b < B) {j : Nat} {f : Fd} {u : Value} (hf : (Θw.fds 5)[j % Θw.sz 5]? = some f) (hu : Gd Θw B Q w f u) (hj : j ≠ 3) : PWay σ B N0 N1 n c w0 wC kb pb p Q (w.setCell ⟨pb, j, none⟩ u) m := by
  obtain ⟨hks, hset⟩ := h.tp.put hf hu
  obtain ⟨a, l, q, h3, h4⟩ := h.ml
  have hkn : Kept (fun b => b ≠ pb) w (w.setCell ⟨pb, j, none⟩ u) := Kept.setCell _ _ _ (fun h => h rfl)
  exact ⟨h.nb, h.gen.go hσ hks hset, h.go.trans hset, hkn.heap h.keys h.apart, hset.tb _ _ _ h.tp, a, l, q, by rw [World.cell?_setCell_other _ _ _ _ (by intro e; injection e with _ e; exact hj e)]; exact h3, h4⟩
/-- A mail more. -/
theorem PWay.mail (h : PWay σ B N0 N1 n c w0 wC kb pb p Q w m) (hσ : σ.b < B) {a p' : Option Addr} {l q c' : Nat} {w1 w' : World} (h1 : All w w1) (hv : Gd Θw B Q w (.sl 0) (.slice a l q)) (hne : ∀ ad, a = some ad → ad.block ≠ kb) (hA : AppTB Θw B Q (Go.Proofs.YtgobnlgmbplggaaGreatDoor.up Q 0) w1 0 a q l 1 (.slice p' (l + 1) c') w') :
    PWay σ B N0 N1 n c w0 wC kb pb (p + 1) (Go.Proofs.YtgobnlgmbplggaaGreatDoor.up Q 0) (w'.setCell ⟨pb, 3, none⟩ (.slice p' (l + 1) c')) m := by
  have hg : Goes Θw B Q w (Go.Proofs.YtgobnlgmbplggaaGreatDoor.up Q 0) w' := (Goes.all h1).trans hA.goes
  have hk : Kept (fun x => x < B) w w' := (h1.mono (fun _ _ => trivial)).trans2 (hA.low (hv.goes (Goes.all h1))) (fun _ _ hx => hx)
  have hb1 := h1.heap h.keys trivial
  have hkb := appHeapNe hA hb1 hne
  have htp := hg.tb _ _ _ h.tp
  have hlt : kb < w1.heap.size := (Array.getElem?_eq_some_iff.1 hb1).1
  have hown := appOwnNe hA hlt hne
  obtain ⟨hks, hset⟩ := htp.put (j := 3) (f := .sl 0) (u := .slice p' (l + 1) c') rfl hA.gd
  have hap : kb ≠ pb := h.apart
  have hkn : Kept (fun b => b ≠ pb) w' (w'.setCell ⟨pb, 3, none⟩ (.slice p' (l + 1) c')) := Kept.setCell _ _ _ (fun h => h rfl)
  obtain ⟨u0, hu0⟩ := htp.cellT (i := 0) (j := 3) (o := 3) (by decide) rfl (by decide)
  refine ⟨h.nb.up (by decide) (by decide), (h.gen.go hσ hk hg).go hσ hks hset, (h.go.trans hg).trans hset, hkn.heap hkb hap, hset.tb _ _ _ htp, p', l + 1, c', World.cell?_setCell_same' _ _ _ (by rw [hu0]; rfl), hown⟩
end
theorem GenX.glob {σ : St} {B n c m : Nat} {N N' : Nat → Nat} {w w' : World} (h : GenX σ B N N' n c w w' m) (h7 : 7 < σ.b) (hσ : σ.b < B) (hg : Glob w) : Glob w' :=
  hg.kept h.kp ⟨by show (1 : Nat) < B; omega, by show (1 : Nat) ≠ σ.b; omega⟩ ⟨by show (2 : Nat) < B; omega, by show (2 : Nat) ≠ σ.b; omega⟩ ⟨by show (0 : Nat) < B; omega, by show (0 : Nat) ≠ σ.b; omega⟩
/-- WorldFault of whatever is right in form. -/
theorem wldFault_free {B : Nat} {Q : Nat → Nat} {w : World} (hg : Glob w) {a0 a1 a2 a3 : Option Addr} {n0 c0 n1 c1 n2 c2 n3 c3 : Nat} (h0 : Gd Θw B Q w (.sl 1) (.slice a0 n0 c0)) (h1 : Gd Θw B Q w (.sl 5) (.slice a1 n1 c1)) (h2 : Gd Θw B Q w (.sl 6) (.slice a2 n2 c2)) (h3 : Gd Θw B Q w (.sl 4) (.slice a3 n3 c3)) (hQ : ∀ x, Q x ≤ 1000) :
    ∃ z : Int, Calls Tryz.prog 16 #[.agg #[.slice a0 n0 c0, .slice a1 n1 c1, .slice a2 n2 c2, .slice a3 n3 c3]] w fun e w' => e = .returned (.int .i64 z) ∧ All w w' := by
  obtain ⟨s, hs, -⟩ := wld_of h0 h1 h2 h3 ⟨hQ 2, hQ 3, hQ 0⟩
  have hs := hs.mono (G := fun _ => True) (fun _ _ => trivial)
  obtain ⟨_, _, _, e, b0, -⟩ := h0.slice
  cases e
  obtain ⟨_, _, _, e, b1, -⟩ := h1.slice
  cases e
  obtain ⟨_, _, _, e, b2, -⟩ := h2.slice
  cases e
  obtain ⟨_, _, _, e, b3, -⟩ := h3.slice
  cases e
  have q0 := hQ 1
  have q1 := hQ 5
  have q2 := hQ 6
  have q3 := hQ 4
  exact ⟨worldF s, worldFault_any a0 n0 c0 a1 n1 c1 a2 n2 c2 a3 n3 c3 s w hs.places (by omega) hs.people (by omega) hs.works (by omega) hs.bonds (by omega) hg⟩
theorem keysTB {B kb : Nat} {N : Nat → Nat} {w : World} (h : w.heap[kb]? = some (.cells ks0 9)) (hB : B ≤ kb) : TB Θw B N w kb 0 7 := by
  refine TB.new h hB (by decide) (by decide) fun i v hv => ⟨.s, ?_, ?_⟩
  · show ([Fd.s])[i % 1]? = some .s
    rw [Nat.mod_one]; rfl
  · have hi : i < 7 := (Array.getElem?_eq_some_iff.1 hv).1
    obtain ⟨s, h1, h2⟩ := keysAt hi
    rw [h1] at hv
    cases hv
    exact ⟨s, rfl, Nat.le_trans h2 (by decide)⟩
end Go.Proofs.YtgobnlgmbplggaaGreatDoor

/- The orders that RightWorld sorts by, on whatever is right in form. -/
namespace Go.Proofs.YtgobnlgmbplggaaGreatDoor
open Go.RowKit

theorem cmpBond_ok (B : Nat) (N : Nat → Nat) : CmpK B N 4 IsInt 124 #[] := by
  intro x y wx hx hy
  rw [Array.append_empty]
  obtain ⟨s, t, rfl⟩ := inv4 hx
  obtain ⟨s', t', rfl⟩ := inv4 hy
  obtain ⟨⟨_, e, hs⟩, ⟨_, e2, ht⟩, -⟩ := hx
  cases e
  cases e2
  obtain ⟨⟨_, e, hs'⟩, ⟨_, e2, ht'⟩, -⟩ := hy
  cases e
  cases e2
  refine (bondOrder_any ⟨s, t⟩ ⟨s', t'⟩ wx ⟨Nat.le_trans hs (by decide), Nat.le_trans ht (by decide)⟩ ⟨Nat.le_trans hs' (by decide), Nat.le_trans ht' (by decide)⟩).mono ?_
  rintro e w' ⟨rfl, h⟩
  exact ⟨⟨_, rfl, _, rfl⟩, h.1⟩
theorem work_free {B : Nat} {N : Nat → Nat} (hN : N 0 ≤ 1000) {d d' : Int} {a a' : Option Addr} {n c n' c' : Nat} {wx : World} (hx : GdL Θw B N wx (Θw.fds 6) [.int .i64 d, .slice a n c]) (hy : GdL Θw B N wx (Θw.fds 6) [.int .i64 d', .slice a' n' c']) :
    ∃ z : Int, Calls Tryz.prog 121 #[.agg #[.int .i64 d, .slice a n c], .agg #[.int .i64 d', .slice a' n' c']] wx fun e w' => e = .returned (.int .i64 z) ∧ All wx w' := by
  obtain ⟨⟨_, e, hd⟩, hg, -⟩ := hx
  cases e
  obtain ⟨⟨_, e, hd'⟩, hg', -⟩ := hy
  cases e
  obtain ⟨x, rfl, rfl, hx, -⟩ := wrk_of hd hg hN
  obtain ⟨y, rfl, rfl, hy, -⟩ := wrk_of hd' hg' hN
  refine ⟨cfW x y, ?_⟩
  refine (workOrder_any x y a c a' c' wx (hx.mono (fun _ _ => trivial)) (hy.mono (fun _ _ => trivial))).mono ?_
  rintro e w' ⟨rfl, h⟩
  exact ⟨rfl, h.1⟩
theorem cmpWork_ok (B : Nat) (N : Nat → Nat) (hN : N 0 ≤ 1000) : CmpK B N 6 IsInt 121 #[] := by
  intro x y wx hx hy
  rw [Array.append_empty]
  obtain ⟨d, a, n, c, rfl⟩ := inv6 hx
  obtain ⟨d', a', n', c', rfl⟩ := inv6 hy
  obtain ⟨z, hz⟩ := work_free hN hx hy
  refine hz.mono ?_
  rintro e w' ⟨rfl, h⟩
  exact ⟨⟨_, rfl, _, rfl⟩, h⟩
set_option maxHeartbeats 1600000 in
theorem cmpWorkEq_ok (B : Nat) (N : Nat → Nat) (hN : N 0 ≤ 1000) : CmpK B N 6 IsBoo 123 #[] := by
  intro x y wx hx hy
  rw [Array.append_empty]
  obtain ⟨d, a, n, c, rfl⟩ := inv6 hx
  obtain ⟨d', a', n', c', rfl⟩ := inv6 hy
  have hk1 : All wx (wx.alloc (.cells #[.int .i64 d, .slice a n c] 105)) := Kept.alloc _ _ _
  have hb1 := heap_at wx (.cells #[.int .i64 d, .slice a n c] 105) _ rfl
  obtain ⟨w1, hw1⟩ : ∃ z, z = wx.alloc (.cells #[.int .i64 d, .slice a n c] 105) := ⟨_, rfl⟩
  obtain ⟨b1, hbn1⟩ : ∃ z, z = wx.heap.size := ⟨_, rfl⟩
  rw [← hw1] at hk1 hb1
  rw [← hbn1] at hb1
  have hsz : w1.heap.size = b1 + 1 := by rw [hw1, hbn1]; simp
  have hk2 : All w1 (w1.alloc (.cells #[.int .i64 d', .slice a' n' c'] 105)) := Kept.alloc _ _ _
  have hb2 := heap_at w1 (.cells #[.int .i64 d', .slice a' n' c'] 105) _ rfl
  obtain ⟨w2, hw2⟩ : ∃ z, z = w1.alloc (.cells #[.int .i64 d', .slice a' n' c'] 105) := ⟨_, rfl⟩
  rw [hsz] at hb2
  obtain ⟨b2, hbn2⟩ : ∃ z, z = b1 + 1 := ⟨_, rfl⟩
  rw [← hw2] at hk2 hb2
  rw [← hbn2] at hb2
  have hb1' := hk2.heap hb1 trivial
  have e0 := cell_at (i := 0) hb1' rfl
  have e1 := cell_at (i := 1) hb1' rfl
  have d0 := cell_at (i := 0) hb2 rfl
  have d1 := cell_at (i := 1) hb2 rfl
  have HK := Lib.hid (hk1.trans hk2)
  obtain ⟨z, hz⟩ := work_free hN (hx.goes (Goes.all (hk1.trans hk2))) (hy.goes (Goes.all (hk1.trans hk2)))
  have HZ := Lib.hid hz
  have H1 := Lib.hid hw1
  have H2 := Lib.hid hbn1
  have H3 := Lib.hid hw2
  have H4 := Lib.hid hbn2
  clear hsz hx hy hk1 hb1 hb1' hw1 hbn1 hk2 hb2 hw2 hbn2 hz
  go_enter Tryz.func123, Tryz.ntmps123
  go_upto_region 1 with fail
  simp only [← H2.out, ← H1.out, ← H4.out, ← H3.out]
  go_wp2_with fail
  refine HZ.out.mono ?_
  rintro e w3 ⟨rfl, h3⟩
  have hk3 := HK.out.trans h3
  clear h3
  go_wp2_with fail
  go_ret
  exact ⟨⟨_, rfl, _, rfl⟩, hk3⟩
end Go.Proofs.YtgobnlgmbplggaaGreatDoor

/- A block of a function's code, found by its number. -/
namespace Go.Proofs.YtgobnlgmbplggaaGreatDoor
open Go.RowKit

def findBlock (n : Nat) : Code → Option Code
  | .block m c => if m = n then some (.block m c) else findBlock n c
  | .seq a b => match findBlock n a with
    | some c => some c
    | none => findBlock n b
  | .loop c => findBlock n c
  | .scope c => findBlock n c
  | .cond _ a b => match findBlock n a with
    | some c => some c
    | none => findBlock n b
  | _ => none
end Go.Proofs.YtgobnlgmbplggaaGreatDoor
