/- A gathered slice of which one element is being changed. No program in sight. -/
import Derived.Test.YtbpbhpmkganefaaGreatDoorGe
import Derived.Test.YtbpbhpmkganefaaGreatDoorFb
import Derived.Deep.DrawnRows
namespace Go.Proofs.YtbpbhpmkganefaaGreatDoor
open Go.RowKit

/-- Element i of the gathered slice has the cells vs; all the others read as they should. -/
def AccH {α : Type} (R : Rel α) (sz : Nat) (T : TypeId) (F : Nat → Nat → Prop) (B : Nat) (w : World) (v : Value) (xs : List α) (i : Nat) (vs : List Value) : Prop :=
  ∃ cells : List Value, w.ownsRow B T sz v xs.length cells ∧ i < xs.length ∧ (cells.drop (i * sz)).take sz = vs ∧ ∀ (m : Nat) (h : m < xs.length), m ≠ i → R (fun k => F m k ∧ v.ownBlock ≠ some k) w ((cells.drop (m * sz)).take sz) xs[m]

section
variable {α : Type} {R : Rel α} {sz : Nat} {T : TypeId} {F : Nat → Nat → Prop} {B : Nat} {w w' : World} {v : Value} {xs : List α} {i : Nat} {vs : List Value}

theorem AccI.open (h : AccI R sz T F B w v xs) (hi : i < xs.length) : ∃ vs, AccH R sz T F B w v xs i vs ∧ R (fun k => F i k ∧ v.ownBlock ≠ some k) w vs xs[i] := by
  obtain ⟨cells, ho, he⟩ := h
  exact ⟨_, ⟨cells, ho, hi, rfl, fun m hm _ => he m hm⟩, he i hi⟩
theorem AccH.close (h : AccH R sz T F B w v xs i vs) {y : α} (hy : R (fun k => F i k ∧ v.ownBlock ≠ some k) w vs y) : AccI R sz T F B w v (xs.set i y) := by
  obtain ⟨cells, ho, hi, hv, he⟩ := h
  refine ⟨cells, by simpa using ho, fun m hm => ?_⟩
  simp only [List.length_set] at hm
  by_cases hmi : m = i
  · subst hmi
    rw [hv, List.getElem_set_self]; exact hy
  · rw [List.getElem_set_ne (Ne.symm hmi)]; exact he m hm hmi
theorem AccH.lt (h : AccH R sz T F B w v xs i vs) : ∀ k, v.ownBlock = some k → B ≤ k ∧ k < w.heap.size := by
  obtain ⟨cells, ho, _⟩ := h
  exact ho.lt
theorem AccH.keep (ok : R.Ok) {G : Nat → Prop} (h : AccH R sz T F B w v xs i vs) (hk : Kept G w w') (hF : ∀ m k, m ≠ i → F m k → v.ownBlock ≠ some k → k < w.heap.size → G k) (hg : ∀ k, v.ownBlock = some k → G k) : AccH R sz T F B w' v xs i vs := by
  obtain ⟨cells, ho, hi, hv, he⟩ := h
  refine ⟨cells, ownsRow_kept ho hk hg, hi, hv, fun m hm hmi => ?_⟩
  exact ok.mono (fun k hk => hk.1) (ok.keep (hk.mono fun k hk => hF m k hmi hk.1.1 hk.1.2 hk.2) (ok.live (he m hm hmi)))
theorem AccH.keepAll (ok : R.Ok) (h : AccH R sz T F B w v xs i vs) (hk : All w w') : AccH R sz T F B w' v xs i vs := h.keep ok hk (fun _ _ _ _ _ _ => trivial) (fun _ _ => trivial)
theorem AccH.live (ok : R.Ok) (h : AccH R sz T F B w v xs i vs) : AccH R sz T (fun m k => F m k ∧ k < w.heap.size) B w v xs i vs := by
  obtain ⟨cells, ho, hi, hv, he⟩ := h
  exact ⟨cells, ho, hi, hv, fun m hm hmi => ok.mono (fun k hk => ⟨⟨hk.1.1, hk.2⟩, hk.1.2⟩) (ok.live (he m hm hmi))⟩
theorem AccH.mono (ok : R.Ok) {G : Nat → Nat → Prop} (h : AccH R sz T F B w v xs i vs) (hF : ∀ m k, m ≠ i → F m k → G m k) : AccH R sz T G B w v xs i vs := by
  obtain ⟨cells, ho, hi, hv, he⟩ := h
  exact ⟨cells, ho, hi, hv, fun m hm hmi => ok.mono (fun k hk => ⟨hF m k hmi hk.1, hk.2⟩) (he m hm hmi)⟩
/-- Where the element lies. -/
theorem AccH.form (h : AccH R sz T F B w v xs i vs) : ∃ g cap, v = .slice (some ⟨g, 0, none⟩) xs.length cap ∧ xs.length ≤ cap ∧ B ≤ g := by
  obtain ⟨cells, ho, hi, hv, he⟩ := h
  rcases ho.2 with ⟨hv, hn⟩ | ⟨g, cap, cur, hv, hg, _, hle, _⟩
  · omega
  · exact ⟨g, cap, hv, hle, hg⟩
theorem AccH.cell {g n cap : Nat} (h : AccH R sz T F B w (.slice (some ⟨g, 0, none⟩) n cap) xs i vs) {j : Nat} {u : Value} (hj : vs[j]? = some u) : w.cell? ⟨g, i * sz + j, none⟩ = some u := by
  obtain ⟨cells, ho, hi, hv, he⟩ := h
  have h3 : cells[i * sz + j]? = some u := by
    rw [← hv, List.getElem?_take] at hj
    split at hj
    · rw [List.getElem?_drop] at hj; exact hj
    · cases hj
  have h4 := ho.cells (g := g) rfl (i * sz + j) _ h3
  have hadd : (⟨g, 0, none⟩ : Addr).add (i * sz + j) = ⟨g, i * sz + j, none⟩ := by
    unfold Addr.add; split
    · rename_i h0; rw [h0]
    · simp
  rw [← hadd]; exact h4
theorem AccH.frozen {g n cap : Nat} (h : AccH R sz T F B w (.slice (some ⟨g, 0, none⟩) n cap) xs i vs) (j : Nat) : w.frozen? ⟨g, j, none⟩ = false := by
  obtain ⟨cells, ho, hi, hv, he⟩ := h
  rcases ho.2 with ⟨h0, hn⟩ | ⟨g', cap', cur, hv, hb, hgg, _⟩
  · cases h0
  · cases hv
    simp only [World.frozen?, hgg]; simp
/-- A store into cell j of element i. -/
theorem AccH.set (ok : R.Ok) {g n cap : Nat} (h : AccH R sz T F B w (.slice (some ⟨g, 0, none⟩) n cap) xs i vs) {j : Nat} (hj : j < sz) (u : Value) :
    AccH R sz T F B (w.setCell ⟨g, i * sz + j, none⟩ u) (.slice (some ⟨g, 0, none⟩) n cap) xs i (vs.set j u) := by
  obtain ⟨cells, ho, hi, hv, he⟩ := h
  have hcl := ho.1
  have h2 : (i + 1) * sz ≤ xs.length * sz := Nat.mul_le_mul_right _ hi
  rw [Nat.add_mul] at h2
  refine ⟨cells.set (i * sz + j) u, ?_, hi, ?_, fun m hm hmi => ?_⟩
  · refine ⟨by simpa using hcl, ?_⟩
    rcases ho.2 with ⟨h0, hn⟩ | ⟨g', cap', cur, hv, hb, hgg, hnc, hcm, hcs, htake⟩
    · cases h0
    · cases hv
      have hh : (w.setCell ⟨g, i * sz + j, none⟩ u).heap[g]? = some (.cells (cur.setIfInBounds (i * sz + j) u) T (0, 0)) := by
        simp [World.setCell, Array.getElem?_modify, hgg]
      refine .inr ⟨g, cap, _, rfl, hb, hh, hnc, hcm, by simpa using hcs, ?_⟩
      rw [Array.toList_setIfInBounds, List.take_set, htake]
  · rw [List.drop_set, if_neg (by omega), List.take_set, hv]
    congr 1
    omega
  · have e2 : ((cells.set (i * sz + j) u).drop (m * sz)).take sz = (cells.drop (m * sz)).take sz := by
      apply List.ext_getElem?
      intro t
      by_cases ht : t < sz
      · simp only [List.getElem?_take, if_pos ht, List.getElem?_drop, List.getElem?_set]
        have hne : ¬ i * sz + j = m * sz + t := by
          rcases Nat.lt_or_gt_of_ne hmi with h3 | h3
          · have : (m + 1) * sz ≤ i * sz := Nat.mul_le_mul_right _ h3
            rw [Nat.add_mul] at this; omega
          · have : (i + 1) * sz ≤ m * sz := Nat.mul_le_mul_right _ h3
            rw [Nat.add_mul] at this; omega
        rw [if_neg hne]
      · simp [List.getElem?_take, ht]
    rw [e2]
    exact ok.keep (Kept.setCell _ _ _ (by simp [Value.ownBlock])) (he m hm hmi)
end
end Go.Proofs.YtbpbhpmkganefaaGreatDoor

/- Finals makes finals, nearly always right ones. -/
namespace Go.Proofs.YtbpbhpmkganefaaGreatDoor
open Go.RowKit
attribute [local go_sem ↓] Go.wp_at_zero Go.wp_at_succ

/-- Finals, as they are read. -/
def IsFins (σ : St) (m : Nat) (v : Value) (w : World) : Prop := ∃ a cap xs, v = .slice a xs.length cap ∧ xs.length ≤ m ∧ xs.length ≤ cap ∧ Sl RFin 4 (fun k => k ≠ σ.b) w a xs.length xs
theorem AccI.fins {σ : St} {tag : Nat → Nat} {B m M : Nat} {w : World} {v : Value} {xs : List Fin4} (h : AccI (RFinO M) 4 57 (Tag B tag) B w v xs) (hM : M ≤ 1000) (hm : xs.length ≤ m) (hB : σ.b < B) : IsFins σ m v w := by
  obtain ⟨a, cap, rfl, hc⟩ := h.form
  have h1 := h.acc (RFinO.ok M) (G := fun k => k ≠ σ.b) (fun i k _ hk => by have := hk.2; omega)
  obtain ⟨a', cap', hv, hsl⟩ := h1.sl (RFinO.ok M) (by decide) (G := fun k => k ≠ σ.b) (fun _ h => h) (fun k hk => by have := (h1.lt k hk).1; omega)
  cases hv
  exact ⟨a, cap, xs, rfl, hm, hc, hsl.imp fun vs x hx => hx.read hM⟩
theorem RFinO.up {m m' : Nat} (hm : m ≤ m') {F : Nat → Prop} {w : World} {vs : List Value} {x : Fin4} (h : RFinO m F w vs x) : RFinO m' F w vs x := by
  obtain ⟨cv, rfl, h1, h2, h3⟩ := h
  exact ⟨cv, rfl, ⟨h1.1, h1.2.1, h1.2.2.1, h1.2.2.2.1, Nat.le_trans h1.2.2.2.2 hm⟩, h2, h3⟩
theorem frozen_block {w w' : World} {b i : Nat} (h : w'.heap[b]? = w.heap[b]?) : w'.frozen? ⟨b, i, none⟩ = w.frozen? ⟨b, i, none⟩ := by simp [World.frozen?, h]
theorem AccH.imp {α : Type} {R R' : Rel α} {sz : Nat} {T : TypeId} {F : Nat → Nat → Prop} {B : Nat} {w : World} {v : Value} {xs : List α} {i : Nat} {vs : List Value} (hR : ∀ G vs x, R G w vs x → R' G w vs x) (h : AccH R sz T F B w v xs i vs) : AccH R' sz T F B w v xs i vs := by
  obtain ⟨cells, ho, h1, h2, he⟩ := h
  exact ⟨cells, ho, h1, h2, fun i hi hm => hR _ _ _ (he i hi hm)⟩
section
variable {σ : St} {tag : Nat → Nat} {B g n cap i : Nat} {w W w7 : World} {xs : List Fin4} {p t : ByteArray} {pg : Int} {cv : Value} {cs : List Cred}
theorem AccH.fins {M : Nat} (hM : M ≤ 1000) (hH : AccH (RFinO M) 4 57 (Tag B tag) B w (.slice (some ⟨g, 0, none⟩) n cap) xs i [.string p, .string t, .int .i64 pg, cv]) (hcs : Acc RCred 2 61 (fun _ => False) 0 w cv cs)
    (hown : ∀ k, cv.ownBlock = some k → Tag B tag i k ∧ (Value.slice (some ⟨g, 0, none⟩) n cap).ownBlock ≠ some k) (hsm : FinSmall M ⟨p, t, pg, cs⟩) (hlen : xs.length ≤ 4) (hB : σ.b < B) : IsFins σ 4 (.slice (some ⟨g, 0, none⟩) n cap) w :=
  (hH.close (y := ⟨p, t, pg, cs⟩) ⟨cv, rfl, hsm, hcs, hown⟩).fins hM (by simpa using hlen) hB
theorem FinH.step {w0 w4 w5 : World} (hH : AccH (RFinO 10) 4 57 (Tag B tag) B w4 (.slice (some ⟨g, 0, none⟩) n cap) xs i [.string p, .string t, .int .i64 pg, cv]) (hcs : Acc RCred 2 61 (fun _ => False) 0 w4 cv cs)
    (hown : ∀ k, cv.ownBlock = some k → Tag B tag i k ∧ (Value.slice (some ⟨g, 0, none⟩) n cap).ownBlock ≠ some k) (hb : But σ.b w0 w4) (hB : σ.b < B) (hW : All w4 W) (hb5 : But σ.b W w5) :
    AccH (RFinO 10) 4 57 (Tag B tag) B w5 (.slice (some ⟨g, 0, none⟩) n cap) xs i [.string p, .string t, .int .i64 pg, cv] ∧ Acc RCred 2 61 (fun _ => False) 0 w5 cv cs ∧ But σ.b w0 w5 := by
  have hb45 : But σ.b w4 w5 := (Kept.all hW).trans hb5
  exact ⟨hH.keep (RFinO.ok 10) hb45 (fun m k _ h _ _ => by have := h.2; omega) (fun k hk => by have := (hH.lt k hk).1; omega), hcs.keep RCred.ok hb45 (fun _ h => h.elim) (fun k hk => by have := (hown k hk).1.2; omega), hb.trans hb45⟩
theorem AccH.credit {y : Cred} {p7 : Option Addr} {c7 : Nat} (hH : AccH (RFinO 10) 4 57 (Tag B tag) B W (.slice (some ⟨g, 0, none⟩) n cap) xs i [.string p, .string t, .int .i64 pg, cv]) (hcs : Acc RCred 2 61 (fun _ => False) 0 W cv cs)
    (hown : ∀ k, cv.ownBlock = some k → Tag B tag i k ∧ (Value.slice (some ⟨g, 0, none⟩) n cap).ownBlock ≠ some k) (hsm : FinSmall 10 ⟨p, t, pg, cs⟩) (hlen : xs.length ≤ 4) (hB : σ.b < B)
    (hacc7 : Acc RCred 2 61 (fun _ => False) 0 w7 (.slice p7 (cs.length + 1) c7) (cs ++ [y])) (hgrow : W.grownBy w7 cv.ownBlock)
    (hat : (Value.slice p7 (cs.length + 1) c7).ownBlock = cv.ownBlock ∨ (Value.slice p7 (cs.length + 1) c7).ownBlock = some W.heap.size) :
    IsFins σ 4 (.slice (some ⟨g, 0, none⟩) n cap) (w7.setCell ⟨g, i * 4 + 3, none⟩ (.slice p7 (cs.length + 1) c7)) := by
  have hgl := (hH.lt g rfl).2
  have hBg := (hH.lt g rfl).1
  have h1 := (hH.imp (R' := RFinO 20) (fun _ _ _ h => h.up (by omega))).live (RFinO.ok 20)
  have hk : Kept (fun k => cv.ownBlock ≠ some k) W w7 := (Kept.refl _ _).grown hgrow (fun k hk => Or.inr (by simp [hk]))
  have h2 := h1.keep (RFinO.ok 20) hk (fun m k hm h _ _ e => hm (h.1.1.symm.trans (hown k e).1.1)) (fun k hk e => (hown k e).2 hk)
  have h3 : AccH (RFinO 20) 4 57 (Tag B (retag W.heap.size i tag)) B w7 (.slice (some ⟨g, 0, none⟩) n cap) xs i [.string p, .string t, .int .i64 pg, cv] := h2.mono (RFinO.ok 20) (fun m k _ h => ⟨by rw [retag_old h.2]; exact h.1.1, h.1.2⟩)
  have h4 := h3.set (RFinO.ok 20) (j := 3) (by decide) (.slice p7 (cs.length + 1) c7)
  have hne : ∀ k, (Value.slice p7 (cs.length + 1) c7).ownBlock = some k → k ≠ g := fun k hk e => by
    subst e
    rcases hat with h | h
    · rw [h] at hk; exact (hown k hk).2 rfl
    · rw [h] at hk; injection hk with hk; omega
  refine AccH.fins (M := 20) (by omega) h4 (cs := cs ++ [y]) (hacc7.keep RCred.ok (Kept.setCell (F := fun k => k ≠ g) _ _ _ (by simp)) (fun _ h => h.elim) hne) (fun k hk => ⟨?_, fun e => hne k hk (by injection e with e; exact e.symm)⟩) ⟨hsm.1, hsm.2.1, hsm.2.2.1, hsm.2.2.2.1, by have := hsm.2.2.2.2; simp at *; omega⟩ hlen hB
  rcases hat with h | h
  · rw [h] at hk
    have := (hcs.lt k hk).2
    exact ⟨by rw [retag_old this]; exact (hown k hk).1.1, (hown k hk).1.2⟩
  · rw [h] at hk; injection hk with hk
    subst hk
    exact ⟨retag_new (Nat.le_refl _), by omega⟩
end

set_option maxRecDepth 100000 in
set_option maxHeartbeats 3200000 in
theorem finals_any (σ : St) (n : Nat) (w : World) (hs : Str σ w n) (hn : n ≤ 4611686018427200000) :
    Calls Tryz.prog 4 #[.pointer (some ⟨σ.b, 0, none⟩)] w (StPost σ n 110 w (IsFins σ 4)) := by
  have hlt := hs.lt
  go_enter Tryz.func4, Tryz.ntmps4
  go_wp2_with fail
  refine (rightFinals_any σ n _ hs (by omega)).mono ?_
  rintro e w1 ⟨v, n1, rfl, ⟨xs, tag, hacc, hlen, hB⟩, hn1, hn2, hs1, hb1⟩
  clear hs
  obtain ⟨a, cap, rfl, hcap⟩ := hacc.form
  by_cases h0 : xs.length = 0
  · have hd : decide (0 < xs.length) = false := decide_eq_false (by omega)
    clear h0
    go_wp2_with fail
    go_ret
    exact ⟨_, n1, rfl, hacc.fins (by omega) hlen hB, by omega, by omega, hs1, hb1⟩
  · have hd : decide (0 < xs.length) = true := decide_eq_true (by omega)
    go_wp2_with fail
    refine (flip_any σ n1 _ _ hs1 (by omega) (by omega) (by omega)).mono ?_
    rintro e w2 ⟨v, n2, rfl, ⟨r, rfl⟩, hn3, hn4, hs2, hb2⟩
    have hacc2 := hacc.keep (RFinO.ok 10) hb2 (fun i k _ h => by have := h.2; omega) (fun k hk => by have := (hacc.lt k hk).1; omega)
    have hb02 : But σ.b w w2 := hb1.trans hb2
    clear hacc hs1 hb1 hb2
    cases r
    · go_wp2_with fail
      go_ret
      exact ⟨_, n2, rfl, hacc2.fins (by omega) hlen hB, by omega, by omega, hs2, hb02⟩
    · go_wp2_with fail
      refine (next_any σ n2 _ _ hs2 (by omega) (by omega) (by omega)).mono ?_
      rintro e w3 ⟨v, n3, rfl, ⟨r, rfl, hr1, hr2⟩, hn5, hn6, hs3, hb3⟩
      obtain ⟨i, rfl⟩ := Int.eq_ofNat_of_zero_le hr1
      have hi : i < xs.length := by omega
      have hacc3 := hacc2.keep (RFinO.ok 10) hb3 (fun i k _ h => by have := h.2; omega) (fun k hk => by have := (hacc2.lt k hk).1; omega)
      have hb03 : But σ.b w w3 := hb02.trans hb3
      clear hacc2 hs2 hb02 hb3
      obtain ⟨vs, hH, cv, rfl, hsm, hcs, hown⟩ := hacc3.open hi
      obtain ⟨g, cap', hv, -, hBg⟩ := hH.form
      cases hv
      go_wp2_with fail
      have hlt3 := hs3.lt
      refine (next_any σ n3 _ _ hs3 (by omega) (by omega) (by omega)).mono ?_
      rintro e w4 ⟨v, n4, rfl, ⟨r, rfl, hr3, hr4⟩, hn7, hn8, hs4, hb4⟩
      have hH4 := hH.keep (RFinO.ok 10) hb4 (fun m k _ h _ _ => by have := h.2; omega) (fun k hk => by have := (hH.lt k hk).1; omega)
      have hcs4 := hcs.keep RCred.ok hb4 (fun _ h => h.elim) (fun k hk => by have := (hown k hk).1.2; omega)
      have hb04 : But σ.b w w4 := hb03.trans hb4
      clear hH hcs hs3 hb03 hb4 hacc3
      have hr : r = 0 ∨ r = 1 ∨ r = 2 ∨ r = 3 ∨ r = 4 := by omega
      have c0 := hH4.cell (j := 0) rfl
      have c1 := hH4.cell (j := 1) rfl
      have c2 := hH4.cell (j := 2) rfl
      have c3 := hH4.cell (j := 3) rfl
      have f0 := hH4.frozen (i * 4)
      have f1 := hH4.frozen (i * 4 + 1)
      have f2 := hH4.frozen (i * 4 + 2)
      have f3 := hH4.frozen (i * 4 + 3)
      rw [Nat.add_zero] at c0
      have hne : ∀ k, cv.ownBlock = some k → k ≠ g := fun k hk e => by subst e; exact (hown k hk).2 rfl
      have hBs := hown
      rcases hr with rfl | rfl | rfl | rfl | rfl
      · go_wp2_with fail
        refine (some10_any σ n4 _ _ _ [⟨#[]⟩, ⟨#[65]⟩, ⟨#[112, 97]⟩, ⟨#[112, 122]⟩] _ (hs4.keep (Kept.alloc _ _ _)) (by omega) (Sl.lit_strs _ (heap_at _ _ _ rfl) rfl (by have := hs4.lt; omega)) (by simp) (by simp)).mono ?_
        rintro e w5 ⟨v, n5, rfl, ⟨r, rfl, _, hrz⟩, hn9, hn10, hs5, hb5⟩
        have hb45 : But σ.b w4 w5 := (Kept.alloc _ _ _).trans hb5
        have hH5 := hH4.keep (RFinO.ok 10) hb45 (fun m k _ h _ _ => by have := h.2; omega) (fun k hk => by have := (hH4.lt k hk).1; omega)
        have hcs5 := hcs4.keep RCred.ok hb45 (fun _ h => h.elim) (fun k hk => by have := (hown k hk).1.2; omega)
        have c5 : w5.cell? ⟨g, i * 4, none⟩ = some (.string xs[i].paper) := hH5.cell (j := 0) rfl
        have f5 := hH5.frozen (i * 4)
        have H6 := Lib.hid (hH5.set (RFinO.ok 10) (j := 0) (by decide) (.string r))
        have C6 := Lib.hid (hcs5.keep RCred.ok (Kept.setCell (F := fun k => k ≠ g) w5 ⟨g, i * 4 + 0, none⟩ (.string r) (by simp)) (fun _ h => h.elim) hne)
        have B6 : But σ.b w (w5.setCell ⟨g, i * 4 + 0, none⟩ (.string r)) := (hb04.trans hb45).then_setNew _ _ hBg
        have S6 := hs5.set ⟨g, i * 4 + 0, none⟩ (.string r) (by dsimp only; omega)
        clear hH5 hcs5 hH4 hcs4 hb04 hb45 hs4
        go_wp2_with fail
        go_ret
        exact ⟨_, n5, rfl, AccH.fins (by omega) H6.out C6.out hown ⟨hrz, hsm.2.1, hsm.2.2⟩ hlen hB, by omega, by omega, S6, B6⟩
      · go_wp2_with fail
        refine (some10_any σ n4 _ _ _ [⟨#[]⟩, ⟨#[32, 97]⟩, ⟨#[97, 32, 32, 98]⟩] _ (hs4.keep (Kept.alloc _ _ _)) (by omega) (Sl.lit_strs _ (heap_at _ _ _ rfl) rfl (by have := hs4.lt; omega)) (by simp) (by simp)).mono ?_
        rintro e w5 ⟨v, n5, rfl, ⟨r, rfl, _, hrz⟩, hn9, hn10, hs5, hb5⟩
        have hb45 : But σ.b w4 w5 := (Kept.alloc _ _ _).trans hb5
        have hH5 := hH4.keep (RFinO.ok 10) hb45 (fun m k _ h _ _ => by have := h.2; omega) (fun k hk => by have := (hH4.lt k hk).1; omega)
        have hcs5 := hcs4.keep RCred.ok hb45 (fun _ h => h.elim) (fun k hk => by have := (hown k hk).1.2; omega)
        have c5 : w5.cell? ⟨g, i * 4 + 1, none⟩ = some (.string xs[i].title) := hH5.cell (j := 1) rfl
        have f5 := hH5.frozen (i * 4 + 1)
        have H6 := Lib.hid (hH5.set (RFinO.ok 10) (j := 1) (by decide) (.string r))
        have C6 := Lib.hid (hcs5.keep RCred.ok (Kept.setCell (F := fun k => k ≠ g) w5 ⟨g, i * 4 + 1, none⟩ (.string r) (by simp)) (fun _ h => h.elim) hne)
        have B6 : But σ.b w (w5.setCell ⟨g, i * 4 + 1, none⟩ (.string r)) := (hb04.trans hb45).then_setNew _ _ hBg
        have S6 := hs5.set ⟨g, i * 4 + 1, none⟩ (.string r) (by dsimp only; omega)
        clear hH5 hcs5 hH4 hcs4 hb04 hb45 hs4
        go_wp2_with fail
        go_ret
        exact ⟨_, n5, rfl, AccH.fins (by omega) H6.out C6.out hown ⟨hsm.1, hrz, hsm.2.2⟩ hlen hB, by omega, by omega, S6, B6⟩
      · go_wp2_with fail
        refine (odd10_any σ n4 1 100 _ hs4 (by omega) (by omega) (by omega) (by omega)).mono ?_
        rintro e w5 ⟨v, n5, rfl, ⟨r, rfl, hr5, hr6⟩, hn9, hn10, hs5, hb45⟩
        have hH5 := hH4.keep (RFinO.ok 10) hb45 (fun m k _ h _ _ => by have := h.2; omega) (fun k hk => by have := (hH4.lt k hk).1; omega)
        have hcs5 := hcs4.keep RCred.ok hb45 (fun _ h => h.elim) (fun k hk => by have := (hown k hk).1.2; omega)
        have c5 : w5.cell? ⟨g, i * 4 + 2, none⟩ = some (.int .i64 xs[i].pages) := hH5.cell (j := 2) rfl
        have f5 := hH5.frozen (i * 4 + 2)
        have H6 := Lib.hid (hH5.set (RFinO.ok 10) (j := 2) (by decide) (.int .i64 r))
        have C6 := Lib.hid (hcs5.keep RCred.ok (Kept.setCell (F := fun k => k ≠ g) w5 ⟨g, i * 4 + 2, none⟩ (.int .i64 r) (by simp)) (fun _ h => h.elim) hne)
        have B6 : But σ.b w (w5.setCell ⟨g, i * 4 + 2, none⟩ (.int .i64 r)) := (hb04.trans hb45).then_setNew _ _ hBg
        have S6 := hs5.set ⟨g, i * 4 + 2, none⟩ (.int .i64 r) (by dsimp only; omega)
        clear hH5 hcs5 hH4 hcs4 hb04 hb45 hs4
        go_wp2_with fail
        go_ret
        exact ⟨_, n5, rfl, AccH.fins (by omega) H6.out C6.out hown ⟨hsm.1, hsm.2.1, hr5, hr6, hsm.2.2.2.2⟩ hlen hB, by omega, by omega, S6, B6⟩
      · have H6 := Lib.hid (hH4.set (RFinO.ok 10) (j := 3) (by decide) (.slice none 0 0))
        have B6 : But σ.b w (w4.setCell ⟨g, i * 4 + 3, none⟩ (.slice none 0 0)) := hb04.then_setNew _ _ hBg
        have S6 := hs4.set ⟨g, i * 4 + 3, none⟩ (.slice none 0 0) (by dsimp only; omega)
        clear hH4 hcs4 hb04 hs4
        go_wp2_with fail
        go_ret
        exact ⟨_, n4, rfl, AccH.fins (cs := []) (by omega) H6.out (Acc.nil _ _ _ _ _ _) (fun k hk => by cases hk) ⟨hsm.1, hsm.2.1, hsm.2.2.1, hsm.2.2.2.1, by simp⟩ hlen hB, by omega, by omega, S6, B6⟩
      · have tok1 : True := trivial
        have hl4 := hs4.lt
        have hgl := (hH4.lt g rfl).2
        have hcl : xs[i].credits.length ≤ 10 := hsm.2.2.2.2
        have hne1 : cv.ownBlock ≠ some g := fun e => hne _ e rfl
        go_wp2_with fail
        go_region_law (first
          | (refine step_append1 RCred.ok _ (by rfl) _ _ 55 (by rfl) 0 61 (.agg #[.string ⟨#[]⟩, .string ⟨#[]⟩]) 2 32 undC (by kernel_rfl) rfl (by decide) (fun _ => False) cv xs[i].credits (by rfl) (hcs6.keepAll RCred.ok (by repeat (first | exact Kept.refl _ _ | refine Kept.then_drew ?_ | refine Kept.then_alloc ?_ _))) ⟨w6.heap.size, 0, none⟩ 1 [.string r1, .string r2] (by rfl) rfl (World.news_of_block (cs := #[.string r1, .string r2]) (t := 61) (fr := (0, 0)) (heap_alloc_new w6 _)) (by simp [Value.oneCell']) ⟨r1, r2⟩ ⟨rfl, hrz1, hrz2⟩ (by omega) (by decide) (by omega) ?_; intro p7 c7 w7 hacc7 hgrow hat7; have q1 : w7.cell? ⟨g, i * 4 + 3, none⟩ = some cv := hgrow.cell (Kept.cell (F := fun _ => True) (w := w6) (by repeat (first | exact Kept.refl _ _ | refine Kept.then_drew ?_ | refine Kept.then_alloc ?_ _)) c6 trivial) (Ne.symm hne1); have q2 : w7.frozen? ⟨g, i * 4 + 3, none⟩ = false := (frozen_block (hgrow.block g (Nat.lt_of_lt_of_le hgl6 (Kept.size (w := w6) (F := fun _ => True) (by repeat (first | exact Kept.refl _ _ | refine Kept.then_drew ?_ | refine Kept.then_alloc ?_ _)))) (Ne.symm hne1))).trans ((hH6.keepAll (RFinO.ok 10) (by repeat (first | exact Kept.refl _ _ | refine Kept.then_drew ?_ | refine Kept.then_alloc ?_ _))).frozen _))
          | (go_simp; go_at_call 18; have _t := tok1; refine (some10_any σ n4 _ _ _ [⟨#[97, 110, 110]⟩, ⟨#[65]⟩, ⟨#[122, 101, 100]⟩] _ (hs4.keep (by repeat (first | exact Kept.refl _ _ | refine Kept.then_drew ?_ | refine Kept.then_alloc ?_ _))) (by omega) (Sl.lit_strs _ (by first | exact heap_at _ _ _ (by first | rfl | simp) | exact heap_old _ (heap_at _ _ _ (by first | rfl | simp))) rfl (by omega)) (by simp) (by simp)).mono ?_; rintro e w5 ⟨v, n5, rfl, ⟨r1, rfl, _, hrz1⟩, hn9, hn10, hs5, hb5⟩; clear tok1 _t; obtain ⟨hH5, hcs5, hb05⟩ := FinH.step hH4 hcs4 hown hb04 hB (by repeat (first | exact Kept.refl _ _ | refine Kept.then_drew ?_ | refine Kept.then_alloc ?_ _)) hb5; have hl5 := hs5.lt; have hz5 := hb5.size; have hgl5 := (hH5.lt g rfl).2; have c5 := hH5.cell (j := 3) rfl)
          | (go_simp; go_at_call 18; refine (some10_any σ n5 _ _ _ [⟨#[]⟩, ⟨#[32, 120]⟩, ⟨#[90, 101, 100]⟩] _ (hs5.keep (by repeat (first | exact Kept.refl _ _ | refine Kept.then_drew ?_ | refine Kept.then_alloc ?_ _))) (by omega) (Sl.lit_strs _ (by first | exact heap_at _ _ _ (by first | rfl | simp) | exact heap_old _ (heap_at _ _ _ (by first | rfl | simp)) | exact hb5.heap (heap_at _ _ _ (by first | rfl | simp)) (by omega) | exact hb5.heap (heap_old _ (heap_at _ _ _ (by first | rfl | simp))) (by omega)) rfl (by omega)) (by simp) (by simp)).mono ?_; rintro e w6 ⟨v, n6, rfl, ⟨r2, rfl, _, hrz2⟩, hn11, hn12, hs6, hb6⟩; obtain ⟨hH6, hcs6, hb06⟩ := FinH.step hH5 hcs5 hown hb05 hB (by repeat (first | exact Kept.refl _ _ | refine Kept.then_drew ?_ | refine Kept.then_alloc ?_ _)) hb6; have hl6 := hs6.lt; have hgl6 := (hH6.lt g rfl).2; have c6 := hH6.cell (j := 3) rfl))
        all_goals
          have F7 := Lib.hid (AccH.credit (W := w6.alloc (.cells #[.string r1, .string r2] 61)) (hH6.keepAll (RFinO.ok 10) (by repeat (first | exact Kept.refl _ _ | refine Kept.then_drew ?_ | refine Kept.then_alloc ?_ _))) (hcs6.keepAll RCred.ok (by repeat (first | exact Kept.refl _ _ | refine Kept.then_drew ?_ | refine Kept.then_alloc ?_ _))) hown hsm hlen hB hacc7 hgrow hat7)
          have hs7 : Str σ w7 n6 := (hs6.keep (by repeat (first | exact Kept.refl _ _ | refine Kept.then_drew ?_ | refine Kept.then_alloc ?_ _))).kept (F := fun k => k ≤ σ.b) ((Kept.refl _ _).grown hgrow (fun k hk => Or.inr (by have := (hown k hk).1.2; omega))) (fun k hk => hk)
          have S7 := hs7.set ⟨g, i * 4 + 3, none⟩ (.slice p7 (xs[i].credits.length + 1) c7) (by dsimp only; omega)
          have B7 : But σ.b w w7 := (hb06.trans (Kept.all (by repeat (first | exact Kept.refl _ _ | refine Kept.then_drew ?_ | refine Kept.then_alloc ?_ _)))).grown hgrow (fun k hk => Or.inl (hown k hk).1.2)
          have B8 := B7.then_setNew ⟨g, i * 4 + 3, none⟩ (.slice p7 (xs[i].credits.length + 1) c7) hBg
          clear hgrow hat7 hacc7 hs7 hs6 hs5 hcs6 hcs5 hcs4 hH6 hH5 hH4 hb06 hb05 hb04 hb5 hb6 B7 hown hBs
          go_wp2_with fail
          go_ret
          exact ⟨_, n6, rfl, F7.out, by omega, by omega, S7, B8⟩
end Go.Proofs.YtbpbhpmkganefaaGreatDoor
