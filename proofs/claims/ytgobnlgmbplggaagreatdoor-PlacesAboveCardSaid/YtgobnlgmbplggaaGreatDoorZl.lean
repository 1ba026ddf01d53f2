/- Copying rows of a world under way. -/
import Derived.Test.YtgobnlgmbplggaaGreatDoorU9
import Derived.Test.YtgobnlgmbplggaaGreatDoorQ0
namespace Go.Proofs.YtgobnlgmbplggaaGreatDoor
open Go.RowKit

/-- A right row of n elements; what was there is as it was. -/
def ClPost (B : Nat) (N : Nat → Nat) (k n : Nat) (w : World) (e : Ending) (w' : World) : Prop := ∃ a c, e = .returned (.slice a n c) ∧ Gd Θw B N w' (.sl k) (.slice a n c) ∧ All w w'

set_option maxHeartbeats 1600000 in
theorem cloneWPlc_any (B : Nat) (N : Nat → Nat) (a : Option Addr) (n cap : Nat) (w : World) (hg : Gd Θw B N w (.sl 1) (.slice a n cap)) (hN : N 1 ≤ 1000000) (hB : B ≤ w.heap.size) :
    Calls Tryz.prog 126 #[.slice a n cap] w (ClPost B N 1 n w) := by
  have HG := Lib.hid hg
  have hnil := @Lib.run_eql_slice_nil Tryz.prog
  cases a with
  | none =>
    have h0 : n = 0 := by
      obtain ⟨a', n', c', e, -, -, h⟩ := hg.slice
      cases e
      rcases Nat.eq_zero_or_pos n with h1 | h1
      · exact h1
      · obtain ⟨g, h2, -⟩ := h h1
        cases h2
    subst h0
    clear hg
    go_enter Tryz.func126, Tryz.ntmps126
    go_wp2_with fail
    go_ret
    exact ⟨none, 0, rfl, Or.inl ⟨_, rfl⟩, Kept.refl _ _⟩
  | some ad =>
    clear hg
    go_enter Tryz.func126, Tryz.ntmps126
    go_wp2_with (at_builtin; refine wp_clone_tb wOk1 (wSep 1 (by decide)) _ rfl _ _ rfl B N _ rfl ad n cap rfl (HG.out.goes (Goes.all (Kept.alloc _ _ _))) (by omega) (by simp; omega) ?_)
    intro p' c' w2 hgd hw2
    have hgd2 := Lib.hid hgd
    have hk2 := Lib.hid (show All w w2 from (Kept.alloc _ _ _).trans hw2)
    clear hgd hw2
    go_wp2_with fail
    go_ret
    exact ⟨_, _, rfl, hgd2.out, hk2.out⟩

set_option maxHeartbeats 1600000 in
theorem cloneWPer_any (B : Nat) (N : Nat → Nat) (a : Option Addr) (n cap : Nat) (w : World) (hg : Gd Θw B N w (.sl 5) (.slice a n cap)) (hN : N 5 ≤ 1000000) (hB : B ≤ w.heap.size) :
    Calls Tryz.prog 127 #[.slice a n cap] w (ClPost B N 5 n w) := by
  have HG := Lib.hid hg
  have hnil := @Lib.run_eql_slice_nil Tryz.prog
  cases a with
  | none =>
    have h0 : n = 0 := by
      obtain ⟨a', n', c', e, -, -, h⟩ := hg.slice
      cases e
      rcases Nat.eq_zero_or_pos n with h1 | h1
      · exact h1
      · obtain ⟨g, h2, -⟩ := h h1
        cases h2
    subst h0
    clear hg
    go_enter Tryz.func127, Tryz.ntmps127
    go_wp2_with fail
    go_ret
    exact ⟨none, 0, rfl, Or.inl ⟨_, rfl⟩, Kept.refl _ _⟩
  | some ad =>
    clear hg
    go_enter Tryz.func127, Tryz.ntmps127
    go_wp2_with (at_builtin; refine wp_clone_tb wOk5 (wSep 5 (by decide)) _ rfl _ _ rfl B N _ rfl ad n cap rfl (HG.out.goes (Goes.all (Kept.alloc _ _ _))) (by omega) (by simp; omega) ?_)
    intro p' c' w2 hgd hw2
    have hgd2 := Lib.hid hgd
    have hk2 := Lib.hid (show All w w2 from (Kept.alloc _ _ _).trans hw2)
    clear hgd hw2
    go_wp2_with fail
    go_ret
    exact ⟨_, _, rfl, hgd2.out, hk2.out⟩

set_option maxHeartbeats 1600000 in
theorem cloneWWrk_any (B : Nat) (N : Nat → Nat) (a : Option Addr) (n cap : Nat) (w : World) (hg : Gd Θw B N w (.sl 6) (.slice a n cap)) (hN : N 6 ≤ 1000000) (hB : B ≤ w.heap.size) :
    Calls Tryz.prog 128 #[.slice a n cap] w (ClPost B N 6 n w) := by
  have HG := Lib.hid hg
  have hnil := @Lib.run_eql_slice_nil Tryz.prog
  cases a with
  | none =>
    have h0 : n = 0 := by
      obtain ⟨a', n', c', e, -, -, h⟩ := hg.slice
      cases e
      rcases Nat.eq_zero_or_pos n with h1 | h1
      · exact h1
      · obtain ⟨g, h2, -⟩ := h h1
        cases h2
    subst h0
    clear hg
    go_enter Tryz.func128, Tryz.ntmps128
    go_wp2_with fail
    go_ret
    exact ⟨none, 0, rfl, Or.inl ⟨_, rfl⟩, Kept.refl _ _⟩
  | some ad =>
    clear hg
    go_enter Tryz.func128, Tryz.ntmps128
    go_wp2_with (at_builtin; refine wp_clone_tb wOk6 (wSep 6 (by decide)) _ rfl _ _ rfl B N _ rfl ad n cap rfl (HG.out.goes (Goes.all (Kept.alloc _ _ _))) (by omega) (by simp; omega) ?_)
    intro p' c' w2 hgd hw2
    have hgd2 := Lib.hid hgd
    have hk2 := Lib.hid (show All w w2 from (Kept.alloc _ _ _).trans hw2)
    clear hgd hw2
    go_wp2_with fail
    go_ret
    exact ⟨_, _, rfl, hgd2.out, hk2.out⟩

set_option maxHeartbeats 1600000 in
theorem cloneWBnd_any (B : Nat) (N : Nat → Nat) (a : Option Addr) (n cap : Nat) (w : World) (hg : Gd Θw B N w (.sl 4) (.slice a n cap)) (hN : N 4 ≤ 1000000) (hB : B ≤ w.heap.size) :
    Calls Tryz.prog 129 #[.slice a n cap] w (ClPost B N 4 n w) := by
  have HG := Lib.hid hg
  have hnil := @Lib.run_eql_slice_nil Tryz.prog
  cases a with
  | none =>
    have h0 : n = 0 := by
      obtain ⟨a', n', c', e, -, -, h⟩ := hg.slice
      cases e
      rcases Nat.eq_zero_or_pos n with h1 | h1
      · exact h1
      · obtain ⟨g, h2, -⟩ := h h1
        cases h2
    subst h0
    clear hg
    go_enter Tryz.func129, Tryz.ntmps129
    go_wp2_with fail
    go_ret
    exact ⟨none, 0, rfl, Or.inl ⟨_, rfl⟩, Kept.refl _ _⟩
  | some ad =>
    clear hg
    go_enter Tryz.func129, Tryz.ntmps129
    go_wp2_with (at_builtin; refine wp_clone_tb wOk4 (wSep 4 (by decide)) _ rfl _ _ rfl B N _ rfl ad n cap rfl (HG.out.goes (Goes.all (Kept.alloc _ _ _))) (by omega) (by simp; omega) ?_)
    intro p' c' w2 hgd hw2
    have hgd2 := Lib.hid hgd
    have hk2 := Lib.hid (show All w w2 from (Kept.alloc _ _ _).trans hw2)
    clear hgd hw2
    go_wp2_with fail
    go_ret
    exact ⟨_, _, rfl, hgd2.out, hk2.out⟩

set_option maxHeartbeats 1600000 in
theorem cloneWNam_any (B : Nat) (N : Nat → Nat) (a : Option Addr) (n cap : Nat) (w : World) (hg : Gd Θw B N w (.sl 2) (.slice a n cap)) (hN : N 2 ≤ 1000000) (hB : B ≤ w.heap.size) :
    Calls Tryz.prog 130 #[.slice a n cap] w (ClPost B N 2 n w) := by
  have HG := Lib.hid hg
  have hnil := @Lib.run_eql_slice_nil Tryz.prog
  cases a with
  | none =>
    have h0 : n = 0 := by
      obtain ⟨a', n', c', e, -, -, h⟩ := hg.slice
      cases e
      rcases Nat.eq_zero_or_pos n with h1 | h1
      · exact h1
      · obtain ⟨g, h2, -⟩ := h h1
        cases h2
    subst h0
    clear hg
    go_enter Tryz.func130, Tryz.ntmps130
    go_wp2_with fail
    go_ret
    exact ⟨none, 0, rfl, Or.inl ⟨_, rfl⟩, Kept.refl _ _⟩
  | some ad =>
    clear hg
    go_enter Tryz.func130, Tryz.ntmps130
    go_wp2_with (at_builtin; refine wp_clone_tb wOk2 (wSep 2 (by decide)) _ rfl _ _ rfl B N _ rfl ad n cap rfl (HG.out.goes (Goes.all (Kept.alloc _ _ _))) (by omega) (by simp; omega) ?_)
    intro p' c' w2 hgd hw2
    have hgd2 := Lib.hid hgd
    have hk2 := Lib.hid (show All w w2 from (Kept.alloc _ _ _).trans hw2)
    clear hgd hw2
    go_wp2_with fail
    go_ret
    exact ⟨_, _, rfl, hgd2.out, hk2.out⟩

set_option maxHeartbeats 1600000 in
theorem cloneWHom_any (B : Nat) (N : Nat → Nat) (a : Option Addr) (n cap : Nat) (w : World) (hg : Gd Θw B N w (.sl 3) (.slice a n cap)) (hN : N 3 ≤ 1000000) (hB : B ≤ w.heap.size) :
    Calls Tryz.prog 131 #[.slice a n cap] w (ClPost B N 3 n w) := by
  have HG := Lib.hid hg
  have hnil := @Lib.run_eql_slice_nil Tryz.prog
  cases a with
  | none =>
    have h0 : n = 0 := by
      obtain ⟨a', n', c', e, -, -, h⟩ := hg.slice
      cases e
      rcases Nat.eq_zero_or_pos n with h1 | h1
      · exact h1
      · obtain ⟨g, h2, -⟩ := h h1
        cases h2
    subst h0
    clear hg
    go_enter Tryz.func131, Tryz.ntmps131
    go_wp2_with fail
    go_ret
    exact ⟨none, 0, rfl, Or.inl ⟨_, rfl⟩, Kept.refl _ _⟩
  | some ad =>
    clear hg
    go_enter Tryz.func131, Tryz.ntmps131
    go_wp2_with (at_builtin; refine wp_clone_tb wOk3 (wSep 3 (by decide)) _ rfl _ _ rfl B N _ rfl ad n cap rfl (HG.out.goes (Goes.all (Kept.alloc _ _ _))) (by omega) (by simp; omega) ?_)
    intro p' c' w2 hgd hw2
    have hgd2 := Lib.hid hgd
    have hk2 := Lib.hid (show All w w2 from (Kept.alloc _ _ _).trans hw2)
    clear hgd hw2
    go_wp2_with fail
    go_ret
    exact ⟨_, _, rfl, hgd2.out, hk2.out⟩

set_option maxHeartbeats 1600000 in
theorem cloneWStr_any (B : Nat) (N : Nat → Nat) (a : Option Addr) (n cap : Nat) (w : World) (hg : Gd Θw B N w (.sl 0) (.slice a n cap)) (hN : N 0 ≤ 1000000) (hB : B ≤ w.heap.size) :
    Calls Tryz.prog 116 #[.slice a n cap] w (ClPost B N 0 n w) := by
  have HG := Lib.hid hg
  have hnil := @Lib.run_eql_slice_nil Tryz.prog
  cases a with
  | none =>
    have h0 : n = 0 := by
      obtain ⟨a', n', c', e, -, -, h⟩ := hg.slice
      cases e
      rcases Nat.eq_zero_or_pos n with h1 | h1
      · exact h1
      · obtain ⟨g, h2, -⟩ := h h1
        cases h2
    subst h0
    clear hg
    go_enter Tryz.func116, Tryz.ntmps116
    go_wp2_with fail
    go_ret
    exact ⟨none, 0, rfl, Or.inl ⟨_, rfl⟩, Kept.refl _ _⟩
  | some ad =>
    clear hg
    go_enter Tryz.func116, Tryz.ntmps116
    go_wp2_with (at_builtin; refine wp_clone_tb wOk0 (wSep 0 (by decide)) _ rfl _ _ rfl B N _ rfl ad n cap rfl (HG.out.goes (Goes.all (Kept.alloc _ _ _))) (by omega) (by simp; omega) ?_)
    intro p' c' w2 hgd hw2
    have hgd2 := Lib.hid hgd
    have hk2 := Lib.hid (show All w w2 from (Kept.alloc _ _ _).trans hw2)
    clear hgd hw2
    go_wp2_with fail
    go_ret
    exact ⟨_, _, rfl, hgd2.out, hk2.out⟩

end Go.Proofs.YtgobnlgmbplggaaGreatDoor

/- A region that draws its order and holds operations behind one guard ('a && f(b)', 'a || f(b)'). No program in sight. -/
namespace Go.Proofs.YtgobnlgmbplggaaGreatDoor
open Go.RowKit

/-- What is still to be walked, closed: the elaborator looks not into it (it would try to decide its guards at each step). -/
structure WPL (P : Program) (ops : Array Oper) (Q : Exit → Act → World → Prop) (l : List Oper) (a : Act) (w : World) : Prop where
  out : wpList P ops Q l a w

/-- wpAny_gen, and each step knows that what it waits for is done. -/
theorem wpAny_genL {P : Program} {ops : Array Oper} {Q : Exit → Act → World → Prop} {a0 : Act} {z : Nat} (hf : FormIs ops z a0.tmps.size)
    (G : Nat → (Nat → Bool) → Act → World → Prop) (D : Nat → Act → World → Prop) (M : Nat → Act → Value → World → World → Prop) (hM : ∀ i j k L a w v w', i < z → j < z → i ≠ j → j ∉ depsOf ops i → G k L a w → M j a v w w' → D i a w → D i (a.put (dstAt ops j) v) w')
    (hstep : ∀ i o, ops[i]? = some o → i < z → ∀ k L a w, k < z → G k L a w → L i = false → a.defers = a0.defers → a.tmps.size = a0.tmps.size → (∀ t, t ∉ dsts ops z → a.tmps[t]? = a0.tmps[t]?) →
      (∀ j ∈ depsOf ops i, L j = true) → (∀ j ∈ depsOf ops i, D j a w) → if Region.wanted o (yielded ops a.tmps) = true then o.wp P a w (fun a' w' => ∃ v, a' = a.put o.dst v ∧ G (k + 1) (fun j => if j = i then true else L j) (a.put o.dst v) w' ∧ M i a v w w' ∧ D i (a.put o.dst v) w') Q else G (k + 1) (fun j => if j = i then true else L j) (a.put o.dst undef) w ∧ M i a undef w w ∧ D i (a.put o.dst undef) w)
    (hlast : ∀ w a L, G z L a w → a.tmps.size = a0.tmps.size → (∀ i, i < z → D i a w) → wpList P ops Q (ops.toList.drop z) (puts a0 ((dsts ops z).map fun t => (t, a.tmps.getD t undef))) w) :
    ∀ fuel listed k a w, listed.toList.count false ≤ fuel → RInv ops z G D a0 listed k a w → wpAny P .any ops Q fuel listed a w := by
  intro fuel
  induction fuel with
  | zero =>
    intro listed k a w hfu hi
    have h1 := hf.size
    have := count_zero (i := z) (by rw [hi.lsz]; omega) (by omega)
    rw [hi.notz z (Nat.le_refl _)] at this
    cases this
  | succ fuel ih =>
    intro listed k a w hfu hi
    have hzs := hf.size
    by_cases hallz : ∀ i, i < z → listed.getD i false = true
    · -- the free ones have all come up
      have hli : ∀ i, i < ops.size → listed.getD i false = decide (i < z) := fun i _ => by
        by_cases h : i < z
        · rw [hallz i h]; simp [h]
        · rw [hi.notz i (by omega)]; simp [h]
      have hcount : listed.toList.count false = ops.size - z := by
        have : listed.toList = List.replicate z true ++ List.replicate (ops.size - z) false := by
          apply List.ext_getElem
          · simp [hi.lsz]; omega
          · intro n h1 h2
            have hn : n < ops.size := by simpa [hi.lsz] using h1
            have h3 := hli n hn
            rw [Array.getD_eq_getD_getElem?, Array.getElem?_eq_getElem (by rw [hi.lsz]; exact hn), Option.getD_some, ← Array.getElem_toList] at h3
            rw [h3, List.getElem_append]
            simp
        rw [this, List.count_append, List.count_replicate, List.count_replicate]
        simp
      have hk : k = z := by have := hi.cnt; omega
      subst hk
      have hav : ∀ n, n < k → D n a w := fun n hn => hi.val n hn (hallz n hn)
      have ha : a = puts a0 ((dsts ops k).map fun t => (t, a.tmps.getD t undef)) := by
        have h1 : a.tmps = (puts a0 ((dsts ops k).map fun t => (t, a.tmps.getD t undef))).tmps := by
          apply Array.ext_getElem?
          intro t
          by_cases ht : t < a0.tmps.size
          · rw [puts_get (fun t => a.tmps.getD t undef) _ _ _ ht]
            by_cases hm : t ∈ dsts ops k
            · rw [if_pos hm, Array.getElem?_eq_getElem (by rw [hi.tsz]; exact ht)]
              simp [Array.getD_eq_getD_getElem?, hi.tsz, ht]
            · rw [if_neg hm]; exact hi.oth t hm
          · rw [Array.getElem?_eq_none (by rw [hi.tsz]; omega), Array.getElem?_eq_none (by rw [puts_size]; omega)]
        have h2 : a.defers = (puts a0 ((dsts ops k).map fun t => (t, a.tmps.getD t undef))).defers := by rw [puts_defers]; exact hi.dfs
        cases a
        generalize puts a0 _ = b at h1 h2
        cases b
        simp only at h1 h2
        rw [h1, h2]
      have h3 := hlast w a _ hi.g hi.tsz hav
      rw [← ha] at h3
      exact wpAny_tail hf (ops.size - k) k _ listed a w (by omega) (Nat.le_refl _) hi.lsz hli (by omega) h3
    -- some free one has not come up; the least such can come up
    have hlow : ∃ n, n < z ∧ (∀ i, i < n → listed.getD i false = true) ∧ listed.getD n false = false := by
      have h2 : ∀ m n, n + m = z → (∀ i, i < n → listed.getD i false = true) → ∃ n, n < z ∧ (∀ i, i < n → listed.getD i false = true) ∧ listed.getD n false = false := by
        intro m
        induction m with
        | zero => intro n hn hall; exact absurd (fun i hlt => hall i (by omega)) hallz
        | succ m ihm =>
          intro n hn hall
          by_cases hnn : listed.getD n false = true
          · exact ihm (n + 1) (by omega) (fun i hlt => by
              by_cases e : i = n
              · rw [e]; exact hnn
              · exact hall i (by omega))
          · exact ⟨n, by omega, hall, by simpa using hnn⟩
      exact h2 z 0 (by omega) (fun i h => by omega)
    obtain ⟨n0, hn0, hbelow, hn0u⟩ := hlow
    have hready : n0 ∈ Region.ready .any ops listed := by
      refine mem_ready.2 ⟨by rw [getD_flip (by rw [hi.lsz]; omega)]; exact hn0u, ops[n0]'(by omega), Array.getElem?_eq_getElem _, fun e he hb => ?_⟩
      have hd : e.on ∈ depsOf ops n0 := (depsOf_some (Array.getElem?_eq_getElem (by omega))).2 ⟨e, he, hb, rfl⟩
      exact hbelow _ (hf.low n0 _ (by omega) hd)
    refine ⟨fun h => (by rw [h] at hready; cases hready), fun i hr => ?_⟩
    obtain ⟨hun, o, ho, hdep⟩ := mem_ready.1 hr
    have hlt : i < ops.size := (Array.getElem?_eq_some_iff.1 ho).1
    have hil : i < listed.size := by rw [hi.lsz]; exact hlt
    have hdeps : ∀ j ∈ depsOf ops i, listed.getD j false = true := fun j hj => by
      obtain ⟨e, he, hb, rfl⟩ := (depsOf_some ho).1 hj
      exact hdep e he hb
    have hcs := count_set hun
    have hizl : i < z := by
      rcases Nat.lt_or_ge i z with h | h
      · exact h
      · exfalso
        -- what comes up from z on waits for all below z
        have hzall : ∀ m n, n + m = z → (∀ j ∈ depsOf ops z, listed.getD j false = true) → 0 < m → listed.getD n false = true := by
          intro m
          induction m using Nat.strongRecOn with
          | _ m ihm =>
            intro n hn hz hm
            obtain ⟨j, hj, hd⟩ := hf.next n (by omega)
            have hnj := hf.low j n (by omega) hd
            by_cases hji : j = z
            · rw [hji] at hd; exact hz n hd
            · exact hi.clo j (by omega) (ihm (z - j) (by omega) j (by omega) hz (by omega)) n hd
        by_cases e : i = z
        · subst e
          have := hzall (i - n0) n0 (by omega) hdeps (by omega)
          rw [hn0u] at this
          cases this
        · have := hdeps (i - 1) (hf.tail i (by omega) hlt)
          rw [hi.notz (i - 1) (by omega)] at this
          cases this
    have hod : dstAt ops i = o.dst := by simp [dstAt, ho]
    unfold wpOp
    simp only [ho]
    have hkz : k < z := by
      have h1 : ops.size - z + 1 ≤ listed.toList.count false := by
        have hsp : listed.toList.count false = (listed.toList.take z).count false + (listed.toList.drop z).count false := by
          rw [← List.count_append, List.take_append_drop]
        have hd : (listed.toList.drop z).count false = ops.size - z := by
          have : listed.toList.drop z = List.replicate (ops.size - z) false := by
            apply List.ext_getElem
            · simp [hi.lsz]
            · intro n h1 h2
              have hn : z + n < ops.size := by simp [hi.lsz] at h1; omega
              have h3 := hi.notz (z + n) (by omega)
              rw [Array.getD_eq_getD_getElem?, Array.getElem?_eq_getElem (by rw [hi.lsz]; exact hn), Option.getD_some, ← Array.getElem_toList] at h3
              rw [List.getElem_drop, h3]
              simp
          rw [this, List.count_replicate]
          simp
        have ht : 0 < (listed.toList.take z).count false := by
          apply List.count_pos_iff.2
          rw [Array.getD_eq_getD_getElem?, Array.getElem?_eq_getElem (by rw [hi.lsz]; omega), Option.getD_some, ← Array.getElem_toList] at hn0u
          have h5 : (listed.toList.take z)[n0]'(by simp [hi.lsz]; omega) = false := by rw [List.getElem_take]; exact hn0u
          exact h5 ▸ List.getElem_mem _
        omega
      have := hi.cnt
      omega
    have hst := hstep i o ho hizl k _ a w hkz hi.g (by rw [← getD_flip hil]; exact hun) hi.dfs hi.tsz hi.oth hdeps (fun j hj => hi.val j (by have := hf.low i j hlt hj; omega) (hdeps j hj))
    suffices hnext : ∀ a' w', (∃ v, a' = a.put o.dst v ∧ G (k + 1) (fun j => if j = i then true else listed.getD j false) (a.put o.dst v) w' ∧ M i a v w w' ∧ D i (a.put o.dst v) w') → wpAny P .any ops Q fuel (listed.setIfInBounds i true) a' w' by
      split
      · rename_i hw
        rw [if_pos hw] at hst
        exact Or.inl (Oper.wp_mono hnext hst)
      · rename_i hw
        rw [if_neg hw] at hst
        exact hnext _ _ ⟨undef, rfl, hst⟩
    rintro a' w' ⟨v, rfl, hg', hm', hd'⟩
    have hgL : G (k + 1) (fun j => (listed.setIfInBounds i true).getD j false) (a.put o.dst v) w' := by
      rw [show (fun j => (listed.setIfInBounds i true).getD j false) = fun j => if j = i then true else listed.getD j false from funext fun j => getD_set hil]
      exact hg'
    refine ih _ (k + 1) _ _ (by omega) ⟨by simp [hi.lsz], by have := hi.cnt; omega, fun j hj hjl n hn => ?_, fun j hj => ?_, by rw [← hi.dfs]; cases o.dst <;> rfl, by rw [← hi.tsz]; cases o.dst <;> simp [Act.put], fun s hs => ?_, fun j hj hjl => ?_, hgL⟩
    · rw [getD_set hil] at hjl ⊢
      by_cases e : n = i
      · simp [e]
      · rw [if_neg e]
        by_cases e2 : j = i
        · rw [e2] at hn; exact hdeps n hn
        · rw [if_neg e2] at hjl; exact hi.clo j hj hjl n hn
    · rw [getD_set hil, if_neg (by omega)]; exact hi.notz j hj
    · cases hdo : o.dst with
      | none => exact hi.oth s hs
      | some t =>
        have hst : s ≠ t := fun e => hs (List.mem_filterMap.2 ⟨i, List.mem_range.2 hizl, by rw [hod, hdo, e]⟩)
        simp only [Act.put, Array.getElem?_setIfInBounds, if_neg (Ne.symm hst)]
        exact hi.oth s hs
    · by_cases e : j = i
      · subst e; exact hd'
      · rw [getD_set hil, if_neg e] at hjl
        have := hM j i k _ a w v w' hj hizl e (fun hm => by have h1 := hi.clo j hj hjl i hm; rw [getD_flip hil, h1] at hun; cases hun) hi.g hm' (hi.val j hj hjl)
        rw [hod] at this
        exact this

/-- The law in full: D may speak of all temporaries, M of what each operation does. -/
theorem wp_region_fullL {P : Program} {ops : Array Oper} {Q : Exit → Act → World → Prop} {id : Nat} {a0 : Act} {w0 : World} (z : Nat) (hm : P.follows .mixedOrders = true) (hform : formOk ops z a0.tmps.size = true)
    (G : Nat → (Nat → Bool) → Act → World → Prop) (D : Nat → Act → World → Prop) (M : Nat → Act → Value → World → World → Prop) (hM : ∀ i j k L a w v w', i < z → j < z → i ≠ j → j ∉ depsOf ops i → G k L a w → M j a v w w' → D i a w → D i (a.put (dstAt ops j) v) w') (hG : G 0 (fun _ => false) a0 w0.drew)
    (hstep : ∀ i o, ops[i]? = some o → i < z → ∀ k L a w, k < z → G k L a w → L i = false → a.defers = a0.defers → a.tmps.size = a0.tmps.size → (∀ t, t ∉ dsts ops z → a.tmps[t]? = a0.tmps[t]?) →
      (∀ j ∈ depsOf ops i, L j = true) → (∀ j ∈ depsOf ops i, D j a w) → if Region.wanted o (yielded ops a.tmps) = true then o.wp P a w (fun a' w' => ∃ v, a' = a.put o.dst v ∧ G (k + 1) (fun j => if j = i then true else L j) (a.put o.dst v) w' ∧ M i a v w w' ∧ D i (a.put o.dst v) w') Q else G (k + 1) (fun j => if j = i then true else L j) (a.put o.dst undef) w ∧ M i a undef w w ∧ D i (a.put o.dst undef) w)
    (hlast : ∀ w a L, G z L a w → a.tmps.size = a0.tmps.size → (∀ i, i < z → D i a w) → wpList P ops Q (ops.toList.drop z) (puts a0 ((dsts ops z).map fun t => (t, a.tmps.getD t undef))) w) :
    (Code.region id ops true).wp P Q a0 w0 := by
  have hf := FormIs.of hform
  have hG' : G 0 (fun j => (Array.replicate ops.size false).getD j false) a0 w0.drew := by
    have e : (fun j => (Array.replicate ops.size false).getD j false) = fun _ => false := funext fun j => by
      rw [Array.getD_eq_getD_getElem?]
      by_cases h : j < ops.size
      · simp [h]
      · simp [h]
    rw [e]; exact hG
  refine wp_region_any hm (wpAny_genL hf G D M hM hstep hlast ops.size _ 0 a0 _ (by simp) ⟨by simp, by simp, fun i hi h => ?_, fun i hi => ?_, rfl, rfl, fun _ _ => rfl, fun i hi h => ?_, hG'⟩)
  · have := hf.size
    simp [Array.getD_eq_getD_getElem?, show i < ops.size by omega] at h
  · rw [Array.getD_eq_getD_getElem?]
    by_cases h : i < ops.size
    · simp [h]
    · simp [h]
  · have := hf.size
    simp [Array.getD_eq_getD_getElem?, show i < ops.size by omega] at h

end Go.Proofs.YtgobnlgmbplggaaGreatDoor
