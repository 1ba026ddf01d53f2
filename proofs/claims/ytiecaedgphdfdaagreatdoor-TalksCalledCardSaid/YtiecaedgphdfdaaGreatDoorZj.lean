/- A region whose operations only read, but for one that makes a block; the tail behind them in the text's order. No program in sight. -/
import Derived.Test.YtiecaedgphdfdaaGreatDoorZh
import Derived.StillTail
namespace Go.Proofs.YtiecaedgphdfdaaGreatDoor
open Go.RowKit

/-- What a still walk in the text's order tells of each operation. -/
theorem still_seq {P : Program} {ops : Array Oper} {W : World} {z sz n : Nat} (hf : FormIs ops z sz) (hnz : n ≤ z) (hall : ∀ i, i < n → ∃ t, dstAt ops i = some t) {aN : Act} :
    ∀ m i a, i + m = n → a.tmps.size = sz → wpStill P ops W (· = aN) ((ops.toList.drop i).take m) a →
      (∀ t, (∀ k, i ≤ k → k < n → dstAt ops k ≠ some t) → aN.tmps[t]? = a.tmps[t]?) ∧
      ∀ k o t, i ≤ k → k < n → ops[k]? = some o → dstAt ops k = some t → ∃ b : Act, YieldsAt P ops W o (aN.tmps.getD t undef) b ∧ b.tmps.size = sz ∧ (∀ s, (∀ j, i ≤ j → j < k → dstAt ops j ≠ some s) → b.tmps[s]? = a.tmps[s]?) ∧ (∀ j s, i ≤ j → j < k → dstAt ops j = some s → b.tmps.getD s undef = aN.tmps.getD s undef) := by
  intro m
  induction m with
  | zero =>
    intro i a hi hs h
    have h' : a = aN := by simpa [wpStill] using h
    subst h'
    exact ⟨fun _ _ => rfl, fun k o t h1 h2 _ _ => by omega⟩
  | succ m ih =>
    intro i a hi hs h
    have hsz := hf.size
    have hlt : i < ops.size := by omega
    have ho : ops[i]? = some ops[i] := Array.getElem?_eq_getElem hlt
    obtain ⟨t, ht⟩ := hall i (by omega)
    have hod : ops[i].dst = some t := by simpa [dstAt, ho] using ht
    have hl : (ops.toList.drop i).take (m + 1) = ops[i] :: (ops.toList.drop (i + 1)).take m := by
      have h1 : ops.toList.drop i = ops[i] :: ops.toList.drop (i + 1) := by
        rw [← Array.getElem_toList (h := by simpa using hlt)]; exact List.drop_eq_getElem_cons (by simpa using hlt)
      rw [h1, List.take_succ_cons]
    rw [hl] at h
    have hst : stOp P ops W i (wpStill P ops W (· = aN) ((ops.toList.drop (i + 1)).take m)) a := by unfold stOp; simp only [ho]; exact h
    obtain ⟨v, hy, hK⟩ := yieldsAt_of_stOp ho hst
    rw [hod] at hK
    have htl := (hf.dst i t (by omega) ht).1
    obtain ⟨hkeep, hrest⟩ := ih (i + 1) (a.put (some t) v) (by omega) (by simp [Act.put, hs]) hK
    have hne : ∀ k, i + 1 ≤ k → k < n → dstAt ops k ≠ some t := fun k h1 h2 => (hf.dst i t (by omega) ht).2 k (by omega) (by omega)
    have hv : aN.tmps.getD t undef = v := by
      have h1 := hkeep t hne
      have h2 : (a.put (some t) v).tmps[t]? = some v := by simp [Act.put, hs, htl]
      rw [Array.getD_eq_getD_getElem?, h1, h2]; rfl
    refine ⟨fun s hs' => ?_, fun k o s h1 h2 hok hds => ?_⟩
    · have hst : t ≠ s := fun e => hs' i (Nat.le_refl _) (by omega) (e ▸ ht)
      rw [hkeep s (fun k h1 h2 => hs' k (by omega) h2)]
      simp [Act.put, hst]
    · by_cases hki : k = i
      · subst hki
        rw [ho] at hok
        obtain rfl := Option.some.inj hok
        rw [ht] at hds
        obtain rfl := Option.some.inj hds
        exact ⟨a, hv ▸ hy, hs, fun _ _ => rfl, fun j s h1 h2 _ => by omega⟩
      · obtain ⟨b, hb1, hb2, hb3, hb4⟩ := hrest k o s (by omega) h2 hok hds
        refine ⟨b, hb1, hb2, fun u hu => ?_, fun j u h3 h4 hdj => ?_⟩
        · have htu : t ≠ u := fun e => hu i (Nat.le_refl _) (by omega) (e ▸ ht)
          rw [hb3 u (fun j h5 h6 => hu j (by omega) h6)]
          simp [Act.put, htu]
        · by_cases hji : j = i
          · subst hji
            rw [ht] at hdj
            obtain rfl := Option.some.inj hdj
            have h5 := hb3 t (fun j' h6 h7 => hne j' h6 (by omega))
            rw [Array.getD_eq_getD_getElem?, h5, hv]
            simp [Act.put, hs, htl]
          · exact hb4 j u (by omega) h4 hdj

/-- A still walk, closed: the elaborator looks not into it (it would run it to the end at each step). -/
structure StillW (P : Program) (ops : Array Oper) (W : World) (Q : Act → Prop) (l : List Oper) (a : Act) : Prop where
  out : wpStill P ops W Q l a
/-- A step of a still walk whose guard holds. -/
theorem still_do {P : Program} {ops : Array Oper} {W : World} {Q : Act → Prop} {a : Act} {o : Oper} {rest : List Oper} (hw : Region.wanted o (yielded ops a.tmps) = true)
    (h : ∀ K : Act → Prop, (∀ a, StillW P ops W Q rest a → K a) → o.still P a W K) : StillW P ops W Q (o :: rest) a := by
  refine ⟨wpStill_step (fun K hK => ?_)⟩
  rw [if_pos hw]
  exact h K (fun a ha => hK a ha.out)
/-- A step whose guard does not hold. -/
theorem still_skip {P : Program} {ops : Array Oper} {W : World} {Q : Act → Prop} {a : Act} {o : Oper} {rest : List Oper} (hw : Region.wanted o (yielded ops a.tmps) = false)
    (h : ∀ K : Act → Prop, (∀ a, StillW P ops W Q rest a → K a) → K (a.put o.dst undef)) : StillW P ops W Q (o :: rest) a := by
  refine ⟨wpStill_step (fun K hK => ?_)⟩
  rw [if_neg (by simp [hw])]
  exact h K (fun a ha => hK a ha.out)
theorem still_nil {P : Program} {ops : Array Oper} {W : World} {Q : Act → Prop} {a : Act} (h : Q a) : StillW P ops W Q [] a := ⟨wpStill_nil h⟩

/-- Each of the first n operations looks at temporaries that were there, or at those of operations that it waits for; it is no select, and has a temporary of its own. -/
def lookOk (ops : Array Oper) (n : Nat) : Bool :=
  (List.range n).all fun i => match ops[i]? with
    | some o => (dstAt ops i).isSome && (match o.op with | .select .. => false | _ => true) && (o.looksAt ops).all fun t => (List.range (n + 1)).all fun j => dstAt ops j != some t || ((depsOf ops i).contains j && decide (j < n))
    | none => false
theorem lookOk.at {ops : Array Oper} {n i : Nat} {o : Oper} (h : lookOk ops n = true) (hi : i < n) (ho : ops[i]? = some o) :
    (dstAt ops i).isSome = true ∧ (∀ cs b, o.op ≠ .select cs b) ∧ ∀ t ∈ o.looksAt ops, ∀ j, j < n + 1 → dstAt ops j = some t → j ∈ depsOf ops i ∧ j < n := by
  have := List.all_eq_true.1 h i (List.mem_range.2 hi)
  rw [ho] at this
  simp only [Bool.and_eq_true, List.all_eq_true, List.mem_range, Bool.or_eq_true, bne_iff_ne, List.contains_iff_mem, decide_eq_true_eq] at this
  obtain ⟨⟨h1, h2⟩, h3⟩ := this
  refine ⟨h1, fun cs b e => ?_, fun t ht j hj hd => (h3 t ht j hj).resolve_left (fun h => h hd)⟩
  rw [e] at h2
  cases h2
theorem looks_operand {ops : Array Oper} {o : Oper} {t : Tmp} (h : Operand.tmp t ∈ o.op.operands) : t ∈ o.looksAt ops :=
  List.mem_append_left _ (List.mem_filterMap.2 ⟨.tmp t, by simpa using h, rfl⟩)
/-- An operation does the same in two states that agree on what it looks at. -/
theorem YieldsAt.agree {P : Program} {ops : Array Oper} {W : World} {o : Oper} {v : Value} {a b : Act} (hs : ∀ cs c, o.op ≠ .select cs c) (h : ∀ t ∈ o.looksAt ops, a.tmps[t]? = b.tmps[t]?) (hy : YieldsAt P ops W o v b) : YieldsAt P ops W o v a := by
  have e1 : execOp a.eval o = execOp b.eval o := execOp_congr o hs fun x hx => by
    cases x with
    | tmp t => simp only [Act.eval, Array.getD_eq_getD_getElem?]; rw [h t (looks_operand hx)]
    | _ => rfl
  have e2 : Region.wanted o (yielded ops a.tmps) = Region.wanted o (yielded ops b.tmps) := by
    unfold Region.wanted
    cases hg : o.guard with
    | none => rfl
    | some g =>
      obtain ⟨j, want⟩ := g
      have : yielded ops a.tmps j = yielded ops b.tmps j := by
        unfold yielded
        cases hd : (ops[j]?).bind (·.dst) with
        | none => rfl
        | some t =>
          have ht : t ∈ o.looksAt ops := List.mem_append_right _ (by simp [hg, hd])
          simp only [Option.bind_some]
          rw [h t ht]
      simp only [this]
  unfold YieldsAt at *
  rw [e1, e2]
  exact hy
theorem YieldsAt.wp {P : Program} {ops : Array Oper} {W : World} {o : Oper} {v : Value} {a : Act} (hy : YieldsAt P ops W o v a) {K : Act → World → Prop} {Q : Exit → Act → World → Prop} (h : K (a.put o.dst v) W) :
    if Region.wanted o (yielded ops a.tmps) = true then o.wp P a W K Q else v = undef ∧ K (a.put o.dst undef) W := by
  rcases hy with ⟨hw, hv⟩ | ⟨hw, rfl⟩
  · rw [if_pos hw]
    unfold Oper.wp
    rcases hv with hv | ⟨hv, rfl⟩ | ⟨f, args, hv, hc⟩
    · rw [hv]; exact h
    · rw [hv]; exact h
    · rw [hv]
      exact hc.mono fun e w'' ⟨he, hw⟩ => by subst he; subst hw; exact h
  · rw [if_neg (by simp [hw])]; exact ⟨rfl, h⟩

/-- A region whose first n operations only read (or call what only reads), whose operation n makes a block, and whose tail waits for all: walked in the text's order, the reads in a variable world. -/
theorem wp_region_quiet_new {P : Program} {ops : Array Oper} {Q : Exit → Act → World → Prop} {id : Nat} {a0 : Act} {w0 : World} (n : Nat) (td : Tmp) (obj : Obj) (hm : P.follows .mixedOrders = true) (hform : formOk ops (n + 1) a0.tmps.size = true) (hlook : lookOk ops n = true) (hnd : dstAt ops n = some td)
    (S : World → Prop) (hS : S w0.drew) (hS2 : S (w0.drew.alloc obj)) (aN : Act) (hdf : aN.defers = a0.defers) (hsz : aN.tmps.size = a0.tmps.size)
    (hstill : ∀ W, S W → StillW P ops W (· = aN) (ops.toList.take n) a0)
    (hal : ∀ o, ops[n]? = some o → o.guard = none ∧ ∀ a : Act, (execOp a.eval o).run P w0.drew = .ok (.value (.pointer (some ⟨w0.heap.size, 0, none⟩))) (w0.drew.alloc obj))
    (hlast : wpList P ops Q (ops.toList.drop (n + 1)) (aN.put (some td) (.pointer (some ⟨w0.heap.size, 0, none⟩))) (w0.drew.alloc obj)) :
    (Code.region id ops true).wp P Q a0 w0 := by
  have hf := FormIs.of hform
  have hsz1 := hf.size
  have hallD : ∀ i, i < n → ∃ t, dstAt ops i = some t := fun i hi => Option.isSome_iff_exists.1 (lookOk.at hlook hi (Array.getElem?_eq_getElem (show i < ops.size by omega))).1
  have hseq : ∀ W, S W → _ := fun W hW => still_seq hf (Nat.le_succ n) hallD n 0 a0 (by omega) rfl (by simpa using (hstill W hW).out)
  have htdl := (hf.dst n td (by omega) hnd).1
  have htdn : ∀ i, i < n → dstAt ops i ≠ some td := fun i hi => (hf.dst n td (by omega) hnd).2 i (by omega) (by omega)
  refine wp_region_full (n + 1) hm hform (fun _ L _ w => (L n = false → w = w0.drew) ∧ (L n = true → w = w0.drew.alloc obj))
    (fun i a w => (i = n → w = w0.drew.alloc obj) ∧ ∀ t, dstAt ops i = some t → a.tmps.getD t undef = (aN.put (some td) (.pointer (some ⟨w0.heap.size, 0, none⟩))).tmps.getD t undef)
    (fun j _ _ w w' => j ≠ n → w' = w) (fun i j k L a w v w' hi hj hij _ _ hmm hd => ⟨fun e => ?_, fun t ht => ?_⟩) ⟨fun _ => rfl, fun h => by cases h⟩ (fun i o ho hi k L a w hk hg hL hdfs hts hoth hdeps => ?_) (fun w a L hg hts hd => ?_)
  · rw [hmm (fun e2 => hij (by omega))]; exact hd.1 e
  · rw [put_at v (fun e => (hf.dst i t hi ht).2 j hj (Ne.symm hij) e)]; exact hd.2 t ht
  · by_cases hin : i = n
    · subst hin
      have hw := hg.1 hL
      subst hw
      obtain ⟨hgd, hrun⟩ := hal o ho
      rw [if_pos (by simp [Region.wanted, hgd])]
      have hod : o.dst = some td := by simpa [dstAt, ho] using hnd
      unfold Oper.wp
      rw [hrun a]
      refine ⟨_, rfl, ⟨fun h => by simp at h, fun _ => rfl⟩, fun h => absurd rfl h, fun _ => rfl, fun t ht => ?_⟩
      rw [hnd] at ht
      obtain rfl := Option.some.inj ht
      rw [hod, put_same _ (by rw [hts]; exact htdl), put_same _ (by rw [hsz]; exact htdl)]
    · have hi' : i < n := by omega
      have hSw : S w := by
        cases hLn : L n with
        | false => rw [hg.1 hLn]; exact hS
        | true => rw [hg.2 hLn]; exact hS2
      obtain ⟨hsome, hsel, hlk⟩ := lookOk.at hlook hi' ho
      obtain ⟨t, ht⟩ := hallD i hi'
      have hod : o.dst = some t := by simpa [dstAt, ho] using ht
      obtain ⟨b, hb1, hb2, hb3, hb4⟩ := (hseq w hSw).2 i o t (Nat.zero_le _) hi' ho ht
      have hagree : ∀ u ∈ o.looksAt ops, a.tmps[u]? = b.tmps[u]? := by
        intro u hu
        by_cases hex : ∃ j, j < n + 1 ∧ dstAt ops j = some u
        · obtain ⟨j, hj, hdj⟩ := hex
          obtain ⟨hjd, hjn⟩ := hlk u hu j hj hdj
          have hji := hf.low i j (by omega) hjd
          have h1 := (hdeps j hjd).2 u hdj
          have h2 := hb4 j u (Nat.zero_le _) hji hdj
          have hul := (hf.dst j u hj hdj).1
          have htu : td ≠ u := fun e => htdn j hjn (e ▸ hdj)
          rw [put_other _ htu] at h1
          rw [← h2] at h1
          simp only [Array.getD_eq_getD_getElem?] at h1
          rw [Array.getElem?_eq_getElem (show u < a.tmps.size by rw [hts]; exact hul), Array.getElem?_eq_getElem (show u < b.tmps.size by rw [hb2]; exact hul)] at h1 ⊢
          simpa using h1
        · rw [hb3 u (fun j _ h2 e => hex ⟨j, by omega, e⟩)]
          exact hoth u (fun hm => by
            obtain ⟨j, hj, hdj⟩ := List.mem_filterMap.1 hm
            exact hex ⟨j, List.mem_range.1 hj, hdj⟩)
      have hya := YieldsAt.agree hsel hagree hb1
      have hval : (a.put o.dst (aN.tmps.getD t undef)).tmps.getD t undef = (aN.put (some td) (.pointer (some ⟨w0.heap.size, 0, none⟩))).tmps.getD t undef := by
        rw [hod, put_same _ (by rw [hts]; exact (hf.dst i t (by omega) ht).1), put_other _ (fun e => htdn i hi' (by rw [ht, e]))]
      have hG : ∀ v, (fun (_ : Nat) (L : Nat → Bool) (_ : Act) w => (L n = false → w = w0.drew) ∧ (L n = true → w = w0.drew.alloc obj)) (k + 1) (fun j => if j = i then true else L j) (a.put o.dst v) w := fun v => by
        have hni : ¬ n = i := fun e => hin e.symm
        simp only [hni, if_false]
        exact hg
      have hDi : (i = n → w = w0.drew.alloc obj) ∧ ∀ t', dstAt ops i = some t' → (a.put o.dst (aN.tmps.getD t undef)).tmps.getD t' undef = (aN.put (some td) (.pointer (some ⟨w0.heap.size, 0, none⟩))).tmps.getD t' undef := ⟨fun e => absurd e hin, fun t' ht' => by
        rw [ht] at ht'
        obtain rfl := Option.some.inj ht'
        exact hval⟩
      have hres := YieldsAt.wp hya (K := fun a' w' => ∃ v, a' = a.put o.dst v ∧ ((if n = i then true else L n) = false → w' = w0.drew) ∧ ((if n = i then true else L n) = true → w' = w0.drew.alloc obj) ∧ (i ≠ n → w' = w) ∧ (i = n → w' = w0.drew.alloc obj) ∧ ∀ t, dstAt ops i = some t → (a.put o.dst v).tmps.getD t undef = (aN.put (some td) (.pointer (some ⟨w0.heap.size, 0, none⟩))).tmps.getD t undef) (Q := Q)
        ⟨_, rfl, (hG (aN.tmps.getD t undef)).1, (hG (aN.tmps.getD t undef)).2, fun _ => rfl, hDi.1, hDi.2⟩
      split
      · rename_i hw
        rw [if_pos hw] at hres
        refine Oper.wp_mono ?_ hres
        rintro a' w' ⟨v, h1, h2, h3, h4, h5, h6⟩
        exact ⟨v, h1, ⟨h2, h3⟩, h4, h5, h6⟩
      · rename_i hw
        rw [if_neg hw] at hres
        obtain ⟨hu, -⟩ := hres
        rw [hu] at hDi
        exact ⟨hG undef, fun _ => rfl, hDi⟩
  · have hw : w = w0.drew.alloc obj := (hd n (by omega)).1 rfl
    subst hw
    have ha : puts a0 ((dsts ops (n + 1)).map fun t => (t, a.tmps.getD t undef)) = aN.put (some td) (.pointer (some ⟨w0.heap.size, 0, none⟩)) := by
      have h1 : (puts a0 ((dsts ops (n + 1)).map fun t => (t, a.tmps.getD t undef))).tmps = (aN.put (some td) (.pointer (some ⟨w0.heap.size, 0, none⟩))).tmps := by
        apply Array.ext_getElem?
        intro t
        by_cases ht : t < a0.tmps.size
        · rw [puts_get (fun t => a.tmps.getD t undef) _ _ _ ht]
          by_cases hmem : t ∈ dsts ops (n + 1)
          · rw [if_pos hmem]
            obtain ⟨j, hj, hdj⟩ := List.mem_filterMap.1 hmem
            rw [(hd j (List.mem_range.1 hj)).2 t hdj, Array.getD_eq_getD_getElem?]
            have : t < (aN.put (some td) (.pointer (some ⟨w0.heap.size, 0, none⟩))).tmps.size := by simp [Act.put, hsz, ht]
            rw [Array.getElem?_eq_getElem this]
            rfl
          · rw [if_neg hmem]
            have hnot : ∀ j, j < n + 1 → dstAt ops j ≠ some t := fun j hj e => hmem (List.mem_filterMap.2 ⟨j, List.mem_range.2 hj, e⟩)
            have h2 := (hseq _ hS).1 t (fun j _ h2 => hnot j (by omega))
            have htd : td ≠ t := fun e => hnot n (by omega) (e ▸ hnd)
            simp only [Act.put, Array.getElem?_setIfInBounds, if_neg htd]
            exact h2.symm
        · rw [Array.getElem?_eq_none (by rw [puts_size]; omega), Array.getElem?_eq_none (by simp [Act.put, hsz]; omega)]
      have h2 : (puts a0 ((dsts ops (n + 1)).map fun t => (t, a.tmps.getD t undef))).defers = (aN.put (some td) (.pointer (some ⟨w0.heap.size, 0, none⟩))).defers := by rw [puts_defers]; exact hdf.symm
      generalize puts a0 _ = x at h1 h2
      generalize aN.put _ _ = y at h1 h2
      cases x
      cases y
      simp only at h1 h2
      rw [h1, h2]
    rw [ha]
    exact hlast
end Go.Proofs.YtiecaedgphdfdaaGreatDoor
