/- mailsFault, advisersFault of the program. -/
import Derived.Test.YtgobnlgmbplggaaGreatDoorQ3
import Derived.Test.YtgobnlgmbplggaaGreatDoorQ0
namespace Go.Proofs.YtgobnlgmbplggaaGreatDoor
open Go.RowKit

section
variable {l : List ByteArray} {k : Nat} {x key : ByteArray} {p : Option ByteArray}
theorem maiE_form (h : mailB x = false) : maiE p x = 3 := by rw [maiE, if_pos h]
theorem maiE_order (h : mailB x = true) (h2 : notUp p x = true) : maiE p x = 7 := by rw [maiE, if_neg (by rw [h]; decide), if_pos h2]
theorem maiE_ok (h : mailB x = true) (h2 : notUp p x = false) : maiE p x = 0 := by rw [maiE, if_neg (by rw [h]; decide), if_neg (by rw [h2]; decide)]
theorem mailsF_large (h : 10 < l.length) : mailsF l = 2 := by rw [mailsF, if_pos h]
theorem mailsF_scan (h : ¬ 10 < l.length) : mailsF l = scanF maiE none l := by rw [mailsF, if_neg h]
theorem advE_name (h : isKeyB x = false) : advE key p x = 5 := by rw [advE, if_pos h]
theorem advE_order (h : isKeyB x = true) (h2 : notUp p x = true) : advE key p x = 7 := by rw [advE, if_neg (by rw [h]; decide), if_pos h2]
theorem advE_self (h : isKeyB x = true) (h2 : notUp p x = false) (h3 : x = key) : advE key p x = 14 := by rw [advE, if_neg (by rw [h]; decide), if_neg (by rw [h2]; decide), if_pos h3]
theorem advE_ok (h : isKeyB x = true) (h2 : notUp p x = false) (h3 : x ≠ key) : advE key p x = 0 := by rw [advE, if_neg (by rw [h]; decide), if_neg (by rw [h2]; decide), if_neg h3]
theorem advsF_large (h : 10 < l.length) : advsF key l = 2 := by rw [advsF, if_pos h]
theorem advsF_scan (h : ¬ 10 < l.length) : advsF key l = scanF (advE key) none l := by rw [advsF, if_neg h]
end
set_option maxRecDepth 100000 in
set_option maxHeartbeats 12800000 in
theorem mailsFault_any (a : Option Addr) (len cap : Nat) (l : List ByteArray) (w : World) (hs : Sl RStr 1 (fun _ => True) w a len l) (hl : len ≤ 100000) :
    Calls Tryz.prog 182 #[.slice a len cap] w fun e w' => e = .returned (.int .i64 (mailsF l)) ∧ All w w' := by
  have HLEN := Lib.hid hs.len
  by_cases hbig : 10 < len
  · have hd0 : decide ((10 : Int) < (len : Int)) = true := by simp; omega
    have HF := Lib.hid (mailsF_large (l := l) (by have := HLEN.out; omega))
    clear hs
    go_enter Tryz.func182, Tryz.ntmps182
    go_wp2_with fail
    go_ret
    exact ⟨ret_int' HF.out.symm, Kept.refl _ _⟩
  have hd0 : decide ((10 : Int) < (len : Int)) = false := by simp; omega
  have HSC := Lib.hid (mailsF_scan (l := l) (by have := HLEN.out; omega))
  have HS := Lib.hid hs
  clear hs
  go_enter Tryz.func182, Tryz.ntmps182
  go_wp2_with fail
  go_loopw [10] (fun i wr => ∃ k : Nat, k ≤ len ∧ i = .int .i64 k ∧ ScanAt maiE l k ∧ wr = w) (fun i _ => len - (intOf i).toNat)
  case atStart => exact ⟨0, Nat.zero_le _, rfl, ScanAt.zero _ _, rfl⟩
  case round =>
    obtain ⟨k, hk, rfl, hat, rfl⟩ := hrel
    by_cases hlt : k < len
    · obtain ⟨b, off, x, ha, -, c0, hxz, hx, -, -⟩ := HS.out.atStr hlt
      subst ha
      have HX := Lib.hid hx
      clear hx
      cases hml : mailB x with
      | false =>
        have HF := Lib.hid (show mailsF l = 3 from by rw [HSC.out]; exact hat.bad HX.out (maiE_form hml) (by decide))
        clear hat
        go_wp2_with fail
        refine (isMail_any x _ hxz).mono ?_
        rintro e w' ⟨rfl, hh⟩
        subst hh
        rw [hml]
        go_wp2_with fail
        go_ret
        exact ⟨ret_int' HF.out.symm, Kept.refl _ _⟩
      | true =>
      rcases k with _ | k
      · have HN := Lib.hid (hat.next HX.out (maiE_ok hml rfl))
        rw [Nat.add_zero] at c0
        clear hat
        go_wp2_with fail
        refine (isMail_any x _ hxz).mono ?_
        rintro e w' ⟨rfl, hh⟩
        subst hh
        rw [hml]
        go_wp2_with fail
        go_roundw
        case rel => exact ⟨1, by omega, rfl, HN.out, (by first | rfl | trivial)⟩
        case measure => simp [intOf]; omega
      · have f1 : (0 : Int) ≤ (k : Int) := by omega
        have f2 : (k : Int) < (len : Int) := by omega
        have f3 : k < len := by omega
        have f4 : IntKind.i64.wrap (k : Int) = (k : Int) := IntWalk.i64_in _ (by omega)
        obtain ⟨b', off', y, ha', -, d0, -, hy, -, -⟩ := HS.out.atStr f3
        cases ha'
        have hpv := Lib.hid (show prevAt l (k + 1) = some y from prevAt_succ hy)
        clear hy
        cases hle : leB x y with
        | true =>
          have hle' : (Op.bytesLess x.toList y.toList || x.toList == y.toList) = true := hle
          have he : maiE (prevAt l (k + 1)) x = 7 := by rw [hpv.out]; exact maiE_order hml hle
          have HF := Lib.hid (show mailsF l = 7 from by rw [HSC.out]; exact hat.bad HX.out he (by decide))
          clear hat hle he
          go_wp2_with fail
          refine (isMail_any x _ hxz).mono ?_
          rintro e w' ⟨rfl, hh⟩
          subst hh
          rw [hml]
          go_wp2_with fail
          go_ret
          exact ⟨ret_int' HF.out.symm, Kept.refl _ _⟩
        | false =>
          have hle' : (Op.bytesLess x.toList y.toList || x.toList == y.toList) = false := hle
          have he : maiE (prevAt l (k + 1)) x = 0 := by rw [hpv.out]; exact maiE_ok hml hle
          have HN := Lib.hid (hat.next HX.out he)
          clear hat hle he
          go_wp2_with fail
          refine (isMail_any x _ hxz).mono ?_
          rintro e w' ⟨rfl, hh⟩
          subst hh
          rw [hml]
          go_wp2_with fail
          go_roundw
          case rel => exact ⟨k + 1 + 1, by omega, by go_num, HN.out, (by first | rfl | trivial)⟩
          case measure => simp [intOf]; omega
    · have hd : decide ((k : Int) < (len : Int)) = false := by simp; omega
      have HF := Lib.hid (show mailsF l = 0 from by rw [HSC.out]; exact hat.ok (by have := HLEN.out; omega))
      clear hat
      go_wp2_with fail
      go_ret
      exact ⟨ret_int' HF.out.symm, Kept.refl _ _⟩
set_option maxRecDepth 100000 in
set_option maxHeartbeats 12800000 in
theorem advisersFault_any (p : Per) (a1 : Option Addr) (c1 : Nat) (a2 : Option Addr) (c2 : Nat) (a3 : Option Addr) (c3 : Nat) (a4 : Option Addr) (c4 : Nat) (w : World) (hs : Sl RStr 1 (fun _ => True) w a4 p.advs.length p.advs) (hl : p.advs.length ≤ 100000) :
    Calls Tryz.prog 183 #[.agg #[.string p.key, .slice a1 p.names.length c1, .slice a2 p.homes.length c2, .slice a3 p.mails.length c3, .slice a4 p.advs.length c4]] w fun e w' => e = .returned (.int .i64 (advsF p.key p.advs)) ∧ All w w' := by
  obtain ⟨len, hlen⟩ : ∃ z, z = p.advs.length := ⟨_, rfl⟩
  have hk1 : All w (w.alloc (.cells #[.string p.key, .slice a1 p.names.length c1, .slice a2 p.homes.length c2, .slice a3 p.mails.length c3, .slice a4 p.advs.length c4] 97)) := Kept.alloc _ _ _
  have hb9 := heap_at w (.cells #[.string p.key, .slice a1 p.names.length c1, .slice a2 p.homes.length c2, .slice a3 p.mails.length c3, .slice a4 p.advs.length c4] 97) _ rfl
  obtain ⟨xb, hxb⟩ : ∃ z, z = w.heap.size := ⟨_, rfl⟩
  have HXB := Lib.hid hxb
  rw [← hxb] at hb9
  have hs1 := hs.keep RStr.ok hk1
  rw [← hlen] at hl hs1 hb9 hk1 ⊢
  have HLEN := Lib.hid hlen
  have HK1 := Lib.hid hk1
  clear hxb hs hk1
  have hsc0 : ¬ 10 < len → advsF p.key p.advs = scanF (advE p.key) none p.advs := fun h => advsF_scan (by omega)
  have hla0 : 10 < len → advsF p.key p.advs = 2 := fun h => advsF_large (by omega)
  clear hlen
  by_cases hbig : 10 < len
  · have hd0 : decide ((10 : Int) < (len : Int)) = true := by simp; omega
    have HF := Lib.hid (hla0 hbig)
    clear hs1 hsc0 hla0
    go_enter Tryz.func183, Tryz.ntmps183
    go_upto_region 1 with fail
    simp only [← HXB.out]
    generalize w.alloc (.cells #[.string p.key, .slice a1 p.names.length c1, .slice a2 p.homes.length c2, .slice a3 p.mails.length c3, .slice a4 len c4] 97) = w9 at *
    have e4 := cell_at (i := 4) hb9 rfl
    go_wp2_with fail
    go_ret
    exact ⟨ret_int' HF.out.symm, HK1.out⟩
  have hd0 : decide ((10 : Int) < (len : Int)) = false := by simp; omega
  have HSC := Lib.hid (hsc0 hbig)
  clear hsc0 hla0
  go_enter Tryz.func183, Tryz.ntmps183
  go_upto_region 1 with fail
  simp only [← HXB.out]
  generalize w.alloc (.cells #[.string p.key, .slice a1 p.names.length c1, .slice a2 p.homes.length c2, .slice a3 p.mails.length c3, .slice a4 len c4] 97) = w9 at *
  have e0 := cell_at (i := 0) hb9 rfl
  have e4 := cell_at (i := 4) hb9 rfl
  have HS := Lib.hid hs1
  clear hs1 hb9
  go_wp2_with fail
  go_loopw [12] (fun i wr => ∃ k : Nat, k ≤ len ∧ i = .int .i64 k ∧ ScanAt (advE p.key) p.advs k ∧ wr = w9) (fun i _ => len - (intOf i).toNat)
  case atStart => exact ⟨0, Nat.zero_le _, rfl, ScanAt.zero _ _, rfl⟩
  case round =>
    obtain ⟨k, hk, rfl, hat, rfl⟩ := hrel
    by_cases hlt : k < len
    · obtain ⟨b, off, x, ha, -, c0, hxz, hx, -, -⟩ := HS.out.atStr hlt
      subst ha
      have HX := Lib.hid hx
      clear hx
      cases hky : isKeyB x with
      | false =>
        have HF := Lib.hid (show advsF p.key p.advs = 5 from by rw [HSC.out]; exact hat.bad HX.out (advE_name hky) (by decide))
        clear hat
        go_wp2_with fail
        refine (isKey_any x _ (by omega)).mono ?_
        rintro e w' ⟨rfl, rfl⟩
        rw [hky]
        go_wp2_with fail
        go_ret
        exact ⟨ret_int' HF.out.symm, HK1.out⟩
      | true =>
      obtain ⟨q, hq⟩ : ∃ q : ByteArray, q = p.key := ⟨_, rfl⟩
      have HQ := Lib.hid hq
      rw [← hq] at e0
      clear hq
      rcases k with _ | k
      · rw [Nat.add_zero] at c0
        by_cases hse : x = q
        · have hde : (x.toList == q.toList) = true := by rw [hse]; simp
          have HF := Lib.hid (show advsF p.key p.advs = 14 from by rw [HSC.out]; exact hat.bad HX.out (advE_self hky rfl (by rw [hse, HQ.out])) (by decide))
          clear hat hse
          go_wp2_with fail
          refine (isKey_any x _ (by omega)).mono ?_
          rintro e w' ⟨rfl, rfl⟩
          rw [hky]
          go_wp2_with fail
          go_ret
          exact ⟨ret_int' HF.out.symm, HK1.out⟩
        · have hde : (x.toList == q.toList) = false := by rw [beq_eq_false_iff_ne]; exact fun e => hse (bytes_ext e)
          have HN := Lib.hid (hat.next HX.out (advE_ok hky rfl (by rw [← HQ.out]; exact hse)))
          clear hat hse
          go_wp2_with fail
          refine (isKey_any x _ (by omega)).mono ?_
          rintro e w' ⟨rfl, rfl⟩
          rw [hky]
          go_wp2_with fail
          go_roundw
          case rel => exact ⟨1, by omega, rfl, HN.out, (by first | rfl | trivial)⟩
          case measure => simp [intOf]; omega
      · have f1 : (0 : Int) ≤ (k : Int) := by omega
        have f2 : (k : Int) < (len : Int) := by omega
        have f3 : k < len := by omega
        have f4 : IntKind.i64.wrap (k : Int) = (k : Int) := IntWalk.i64_in _ (by omega)
        obtain ⟨b', off', y, ha', -, d0, -, hy, -, -⟩ := HS.out.atStr f3
        cases ha'
        have hpv := Lib.hid (show prevAt p.advs (k + 1) = some y from prevAt_succ hy)
        clear hy
        cases hle : leB x y with
        | true =>
          have hle' : (Op.bytesLess x.toList y.toList || x.toList == y.toList) = true := hle
          have he : advE p.key (prevAt p.advs (k + 1)) x = 7 := by rw [hpv.out]; exact advE_order hky hle
          have HF := Lib.hid (show advsF p.key p.advs = 7 from by rw [HSC.out]; exact hat.bad HX.out he (by decide))
          clear hat hle he
          go_wp2_with fail
          refine (isKey_any x _ (by omega)).mono ?_
          rintro e w' ⟨rfl, rfl⟩
          rw [hky]
          go_wp2_with fail
          go_ret
          exact ⟨ret_int' HF.out.symm, HK1.out⟩
        | false =>
          have hle' : (Op.bytesLess x.toList y.toList || x.toList == y.toList) = false := hle
          by_cases hse : x = q
          · have hde : (x.toList == q.toList) = true := by rw [hse]; simp
            have he : advE p.key (prevAt p.advs (k + 1)) x = 14 := by rw [hpv.out]; exact advE_self hky hle (by rw [hse, HQ.out])
            have HF := Lib.hid (show advsF p.key p.advs = 14 from by rw [HSC.out]; exact hat.bad HX.out he (by decide))
            clear hat hse hle he
            go_wp2_with fail
            refine (isKey_any x _ (by omega)).mono ?_
            rintro e w' ⟨rfl, rfl⟩
            rw [hky]
            go_wp2_with fail
            go_ret
            exact ⟨ret_int' HF.out.symm, HK1.out⟩
          · have hde : (x.toList == q.toList) = false := by rw [beq_eq_false_iff_ne]; exact fun e => hse (bytes_ext e)
            have he : advE p.key (prevAt p.advs (k + 1)) x = 0 := by rw [hpv.out]; exact advE_ok hky hle (by rw [← HQ.out]; exact hse)
            have HN := Lib.hid (hat.next HX.out he)
            clear hat hse hle he
            go_wp2_with fail
            refine (isKey_any x _ (by omega)).mono ?_
            rintro e w' ⟨rfl, rfl⟩
            rw [hky]
            go_wp2_with fail
            go_roundw
            case rel => exact ⟨k + 1 + 1, by omega, by go_num, HN.out, (by first | rfl | trivial)⟩
            case measure => simp [intOf]; omega
    · have hd : decide ((k : Int) < (len : Int)) = false := by simp; omega
      have HF := Lib.hid (show advsF p.key p.advs = 0 from by rw [HSC.out]; exact hat.ok (by have := HLEN.out; omega))
      clear hat
      go_wp2_with fail
      go_ret
      exact ⟨ret_int' HF.out.symm, HK1.out⟩
end Go.Proofs.YtgobnlgmbplggaaGreatDoor

/- A region that draws its order, whose operations are all free: none waits for all. No program in sight. -/
namespace Go.Proofs.YtgobnlgmbplggaaGreatDoor
open Go.RowKit

def formAllOk (ops : Array Oper) (sz : Nat) : Bool :=
  (List.range ops.size).all (fun i => match dstAt ops i with | some t => decide (t < sz) && (List.range ops.size).all (fun j => i == j || dstAt ops j != some t) | none => true) &&
  (List.range ops.size).all (fun i => (depsOf ops i).all (· < i))
structure FormAll (ops : Array Oper) (sz : Nat) : Prop where
  dst : ∀ i t, i < ops.size → dstAt ops i = some t → t < sz ∧ ∀ j, j < ops.size → j ≠ i → dstAt ops j ≠ some t
  low : ∀ i j, i < ops.size → j ∈ depsOf ops i → j < i
theorem FormAll.of {ops : Array Oper} {sz : Nat} (h : formAllOk ops sz = true) : FormAll ops sz := by
  simp only [formAllOk, Bool.and_eq_true, List.all_eq_true, List.mem_range] at h
  obtain ⟨h3, h4⟩ := h
  refine ⟨fun i t hi ht => ?_, fun i j hi hj => ?_⟩
  · have := h3 i hi
    rw [ht] at this
    simp only [Bool.and_eq_true, decide_eq_true_eq, List.all_eq_true, List.mem_range, Bool.or_eq_true, beq_iff_eq, bne_iff_ne] at this
    exact ⟨this.1, fun j hj hne => (this.2 j hj).resolve_left (fun e => hne e.symm)⟩
  · have := h4 i hi j hj
    simpa using this
theorem wpAny_all {P : Program} {ops : Array Oper} {Q : Exit → Act → World → Prop} {a0 : Act} (hf : FormAll ops a0.tmps.size)
    (G : Nat → (Nat → Bool) → Act → World → Prop) (D : Nat → Act → World → Prop) (M : Nat → Act → Value → World → World → Prop) (hM : ∀ i j k L a w v w', i < ops.size → j < ops.size → i ≠ j → j ∉ depsOf ops i → G k L a w → M j a v w w' → D i a w → D i (a.put (dstAt ops j) v) w')
    (hstep : ∀ i o, ops[i]? = some o → i < ops.size → ∀ k L a w, k < ops.size → G k L a w → L i = false → a.defers = a0.defers → a.tmps.size = a0.tmps.size → (∀ t, t ∉ dsts ops ops.size → a.tmps[t]? = a0.tmps[t]?) →
      (∀ j ∈ depsOf ops i, D j a w) → if Region.wanted o (yielded ops a.tmps) = true then o.wp P a w (fun a' w' => ∃ v, a' = a.put o.dst v ∧ G (k + 1) (fun j => if j = i then true else L j) (a.put o.dst v) w' ∧ M i a v w w' ∧ D i (a.put o.dst v) w') Q else G (k + 1) (fun j => if j = i then true else L j) (a.put o.dst undef) w ∧ M i a undef w w ∧ D i (a.put o.dst undef) w)
    (hlast : ∀ w a L, G ops.size L a w → a.tmps.size = a0.tmps.size → (∀ i, i < ops.size → D i a w) → Q .normal (puts a0 ((dsts ops ops.size).map fun t => (t, a.tmps.getD t undef))) w) :
    ∀ fuel listed k a w, listed.toList.count false ≤ fuel → RInv ops ops.size G D a0 listed k a w → wpAny P .any ops Q fuel listed a w := by
  have key : ∀ listed k a w, (∀ i, i < ops.size → listed.getD i false = true) → RInv ops ops.size G D a0 listed k a w → Region.ready .any ops listed = [] ∧ Q .normal a w := by
    intro listed k a w hallz hi
    have hnone : Region.ready .any ops listed = [] := by
      rw [List.eq_nil_iff_forall_not_mem]
      intro n hn
      obtain ⟨hu, o', ho', _⟩ := mem_ready.1 hn
      have hn' : n < ops.size := (Array.getElem?_eq_some_iff.1 ho').1
      rw [getD_flip (by rw [hi.lsz]; exact hn'), hallz n hn'] at hu
      cases hu
    have hk : k = ops.size := by
      have h0 : listed.toList.count false = 0 := by
        rw [List.count_eq_zero]
        intro hm
        obtain ⟨n, hn, e⟩ := List.mem_iff_getElem.1 hm
        have hn2 : n < listed.size := by simpa using hn
        have := hallz n (by rw [← hi.lsz]; exact hn2)
        rw [Array.getD_eq_getD_getElem?, Array.getElem?_eq_getElem hn2, Option.getD_some, ← Array.getElem_toList, e] at this
        cases this
      have := hi.cnt
      omega
    refine ⟨hnone, ?_⟩
    have hav : ∀ n, n < ops.size → D n a w := fun n hn => hi.val n hn (hallz n hn)
    have ha : a = puts a0 ((dsts ops ops.size).map fun t => (t, a.tmps.getD t undef)) := by
      have h1 : a.tmps = (puts a0 ((dsts ops ops.size).map fun t => (t, a.tmps.getD t undef))).tmps := by
        apply Array.ext_getElem?
        intro t
        by_cases ht : t < a0.tmps.size
        · rw [puts_get (fun t => a.tmps.getD t undef) _ _ _ ht]
          by_cases hm : t ∈ dsts ops ops.size
          · rw [if_pos hm, Array.getElem?_eq_getElem (by rw [hi.tsz]; exact ht)]
            simp [Array.getD_eq_getD_getElem?, hi.tsz, ht]
          · rw [if_neg hm]; exact hi.oth t hm
        · rw [Array.getElem?_eq_none (by rw [hi.tsz]; omega), Array.getElem?_eq_none (by rw [puts_size]; omega)]
      have h2 : a.defers = (puts a0 ((dsts ops ops.size).map fun t => (t, a.tmps.getD t undef))).defers := by rw [puts_defers]; exact hi.dfs
      cases a
      generalize puts a0 _ = b at h1 h2
      cases b
      simp only at h1 h2
      rw [h1, h2]
    have hg := hi.g
    rw [hk] at hg
    have h3 := hlast w a _ hg hi.tsz hav
    rw [← ha] at h3
    exact h3
  intro fuel
  induction fuel with
  | zero =>
    intro listed k a w hfu hi
    exact key listed k a w (fun i hlt => count_zero (by rw [hi.lsz]; exact hlt) (by omega)) hi
  | succ fuel ih =>
    intro listed k a w hfu hi
    by_cases hallz : ∀ i, i < ops.size → listed.getD i false = true
    · obtain ⟨h1, h2⟩ := key listed k a w hallz hi
      exact ⟨fun _ => h2, fun i hr => by rw [h1] at hr; cases hr⟩
    -- some free one has not come up; the least such can come up
    have hlow : ∃ n, n < ops.size ∧ (∀ i, i < n → listed.getD i false = true) ∧ listed.getD n false = false := by
      have h2 : ∀ m n, n + m = ops.size → (∀ i, i < n → listed.getD i false = true) → ∃ n, n < ops.size ∧ (∀ i, i < n → listed.getD i false = true) ∧ listed.getD n false = false := by
        intro m
        induction m with
        | zero => intro n hn hall; exact absurd (fun i hlt => hall i (by omega)) hallz
        | succ m ihm =>
          intro n hn hall
          by_cases hnn : listed.getD n false = true
          · exact ihm (n + 1) (by omega) (fun i hlt => by
              by_cases e : i = n
              · rw [e]; exact hnn
              · exact hall i (by omega))
          · exact ⟨n, by omega, hall, by simpa using hnn⟩
      exact h2 ops.size 0 (by omega) (fun i h => by omega)
    obtain ⟨n0, hn0, hbelow, hn0u⟩ := hlow
    have hready : n0 ∈ Region.ready .any ops listed := by
      refine mem_ready.2 ⟨by rw [getD_flip (by rw [hi.lsz]; omega)]; exact hn0u, ops[n0]'(by omega), Array.getElem?_eq_getElem _, fun e he hb => ?_⟩
      have hd : e.on ∈ depsOf ops n0 := (depsOf_some (Array.getElem?_eq_getElem (by omega))).2 ⟨e, he, hb, rfl⟩
      exact hbelow _ (hf.low n0 _ (by omega) hd)
    refine ⟨fun h => (by rw [h] at hready; cases hready), fun i hr => ?_⟩
    obtain ⟨hun, o, ho, hdep⟩ := mem_ready.1 hr
    have hlt : i < ops.size := (Array.getElem?_eq_some_iff.1 ho).1
    have hil : i < listed.size := by rw [hi.lsz]; exact hlt
    have hdeps : ∀ j ∈ depsOf ops i, listed.getD j false = true := fun j hj => by
      obtain ⟨e, he, hb, rfl⟩ := (depsOf_some ho).1 hj
      exact hdep e he hb
    have hcs := count_set hun
    have hizl : i < ops.size := hlt
    have hod : dstAt ops i = o.dst := by simp [dstAt, ho]
    unfold wpOp
    simp only [ho]
    have hkz : k < ops.size := by
      have h1 : 0 < listed.toList.count false := by
        apply List.count_pos_iff.2
        rw [Array.getD_eq_getD_getElem?, Array.getElem?_eq_getElem (by rw [hi.lsz]; omega), Option.getD_some, ← Array.getElem_toList] at hn0u
        exact hn0u ▸ List.getElem_mem _
      have := hi.cnt
      omega
    have hst := hstep i o ho hizl k _ a w hkz hi.g (by rw [← getD_flip hil]; exact hun) hi.dfs hi.tsz hi.oth (fun j hj => hi.val j (by have := hf.low i j hlt hj; omega) (hdeps j hj))
    suffices hnext : ∀ a' w', (∃ v, a' = a.put o.dst v ∧ G (k + 1) (fun j => if j = i then true else listed.getD j false) (a.put o.dst v) w' ∧ M i a v w w' ∧ D i (a.put o.dst v) w') → wpAny P .any ops Q fuel (listed.setIfInBounds i true) a' w' by
      split
      · rename_i hw
        rw [if_pos hw] at hst
        exact Or.inl (Oper.wp_mono hnext hst)
      · rename_i hw
        rw [if_neg hw] at hst
        exact hnext _ _ ⟨undef, rfl, hst⟩
    rintro a' w' ⟨v, rfl, hg', hm', hd'⟩
    have hgL : G (k + 1) (fun j => (listed.setIfInBounds i true).getD j false) (a.put o.dst v) w' := by
      rw [show (fun j => (listed.setIfInBounds i true).getD j false) = fun j => if j = i then true else listed.getD j false from funext fun j => getD_set hil]
      exact hg'
    refine ih _ (k + 1) _ _ (by omega) ⟨by simp [hi.lsz], by have := hi.cnt; omega, fun j hj hjl n hn => ?_, fun j hj => ?_, by rw [← hi.dfs]; cases o.dst <;> rfl, by rw [← hi.tsz]; cases o.dst <;> simp [Act.put], fun s hs => ?_, fun j hj hjl => ?_, hgL⟩
    · rw [getD_set hil] at hjl ⊢
      by_cases e : n = i
      · simp [e]
      · rw [if_neg e]
        by_cases e2 : j = i
        · rw [e2] at hn; exact hdeps n hn
        · rw [if_neg e2] at hjl; exact hi.clo j hj hjl n hn
    · rw [getD_set hil, if_neg (by omega)]; exact hi.notz j hj
    · cases hdo : o.dst with
      | none => exact hi.oth s hs
      | some t =>
        have hst : s ≠ t := fun e => hs (List.mem_filterMap.2 ⟨i, List.mem_range.2 hizl, by rw [hod, hdo, e]⟩)
        simp only [Act.put, Array.getElem?_setIfInBounds, if_neg (Ne.symm hst)]
        exact hi.oth s hs
    · by_cases e : j = i
      · subst e; exact hd'
      · rw [getD_set hil, if_neg e] at hjl
        have := hM j i k _ a w v w' hj hizl e (fun hm => by have h1 := hi.clo j hj hjl i hm; rw [getD_flip hil, h1] at hun; cases hun) hi.g hm' (hi.val j hj hjl)
        rw [hod] at this
        exact this

theorem wp_region_all {P : Program} {ops : Array Oper} {Q : Exit → Act → World → Prop} {id : Nat} {a0 : Act} {w0 : World} (hm : P.follows .mixedOrders = true) (hform : (formAllOk ops a0.tmps.size && plainOk ops ops.size) = true) (hdst : (List.range ops.size).all (fun i => (dstAt ops i).isSome) = true)
    (G : World → Prop) (D : Nat → Value → World → Prop) (M : World → World → Prop) (hM : ∀ i v w w', M w w' → D i v w → D i v w') (hG : G w0.drew)
    (hstep : ∀ i o t, ops[i]? = some o → o.dst = some t → i < ops.size → ∀ a w, G w → a.defers = a0.defers → a.tmps.size = a0.tmps.size → (∀ t, t ∉ dsts ops ops.size → a.tmps[t]? = a0.tmps[t]?) →
      (∀ j ∈ depsOf ops i, ∀ t, dstAt ops j = some t → D j (a.tmps.getD t undef) w) → o.wp P a w (fun a' w' => ∃ v, a' = a.put (some t) v ∧ G w' ∧ M w w' ∧ D i v w') Q)
    (hlast : ∀ w (f : Tmp → Value), G w → (∀ i t, i < ops.size → dstAt ops i = some t → D i (f t) w) → Q .normal (puts a0 ((dsts ops ops.size).map fun t => (t, f t))) w) :
    (Code.region id ops true).wp P Q a0 w0 := by
  have hf := FormAll.of (Bool.and_eq_true_iff.1 hform).1
  have hpl := (Bool.and_eq_true_iff.1 hform).2
  have hsome : ∀ i, i < ops.size → ∃ t, dstAt ops i = some t := fun i hi => Option.isSome_iff_exists.1 (List.all_eq_true.1 hdst i (List.mem_range.2 hi))
  refine wp_region_any hm (wpAny_all hf (fun _ _ _ w => G w) (fun i a w => ∀ t, dstAt ops i = some t → D i (a.tmps.getD t undef) w) (fun _ _ _ w w' => M w w') (fun i j k L a w v w' hi hj hij _ _ hmm hd t ht => ?_) (fun i o ho hi k L a w hk hg hL h1 h2 h3 h4 => ?_) (fun w a L hg _ hd => ?_) ops.size _ 0 a0 _ (by simp) ⟨by simp, by simp, fun i hi h => ?_, fun i hi => ?_, rfl, rfl, fun _ _ => rfl, fun i hi h => ?_, hG⟩)
  · have et : dstAt ops j ≠ some t := (hf.dst i t hi ht).2 j hj (Ne.symm hij)
    rw [put_at v et]
    exact hM _ _ _ _ hmm (hd t ht)
  · obtain ⟨t, ht⟩ := hsome i hi
    have hod : o.dst = some t := by simpa [dstAt, ho] using ht
    rw [if_pos (by simp [Region.wanted, plainOk.guard hpl hi ho])]
    refine Oper.wp_mono ?_ (hstep i o t ho hod hi a w hg h1 h2 h3 (fun j hj t ht => h4 j hj t ht))
    rintro a' w' ⟨v, rfl, hg', hm', hd'⟩
    refine ⟨v, by rw [hod], hg', hm', fun s hs => ?_⟩
    rw [ht] at hs
    obtain rfl := Option.some.inj hs
    rw [hod, put_same _ (by rw [h2]; exact (hf.dst i _ hi ht).1)]
    exact hd'
  · exact hlast w (fun t => a.tmps.getD t undef) hg (fun i t hi ht => hd i hi t ht)
  · simp [Array.getD_eq_getD_getElem?, hi] at h
  · simp [Array.getD_eq_getD_getElem?, show ¬ i < ops.size by omega]
  · simp [Array.getD_eq_getD_getElem?, hi] at h
end Go.Proofs.YtgobnlgmbplggaaGreatDoor

/- personFault of the program. -/
namespace Go.Proofs.YtgobnlgmbplggaaGreatDoor
open Go.RowKit

set_option maxRecDepth 100000 in
set_option maxHeartbeats 12800000 in
theorem personFault_any (p : Per) (a1 : Option Addr) (c1 : Nat) (a2 : Option Addr) (c2 : Nat) (a3 : Option Addr) (c3 : Nat) (a4 : Option Addr) (c4 : Nat) (ps : List Plc) (mb n : Nat) (w : World) (hp : PerIs (fun _ => True) w p a1 c1 a2 c2 a3 c3 a4 c4) (hm : MapS Tryz.prog 9 w mb n (upV ps)) (hg : Glob w) :
    Calls Tryz.prog 139 #[.agg #[.string p.key, .slice a1 p.names.length c1, .slice a2 p.homes.length c2, .slice a3 p.mails.length c3, .slice a4 p.advs.length c4], .map (some mb)] w fun e w' => e = .returned (.int .i64 (persF ps p)) ∧ All w w' := by
  obtain ⟨-, hs1, hs2, hs3, hs4⟩ := hp.small
  have hk1 : All w (w.alloc (.cells #[.string p.key, .slice a1 p.names.length c1, .slice a2 p.homes.length c2, .slice a3 p.mails.length c3, .slice a4 p.advs.length c4] 97)) := Kept.alloc _ _ _
  have hb9 := heap_at w (.cells #[.string p.key, .slice a1 p.names.length c1, .slice a2 p.homes.length c2, .slice a3 p.mails.length c3, .slice a4 p.advs.length c4] 97) _ rfl
  obtain ⟨xb, hxb⟩ : ∃ z, z = w.heap.size := ⟨_, rfl⟩
  have HXB := Lib.hid hxb
  rw [← hxb] at hb9
  have H1 := Lib.hid (fun (wx : World) (k : All (w.alloc (.cells #[.string p.key, .slice a1 p.names.length c1, .slice a2 p.homes.length c2, .slice a3 p.mails.length c3, .slice a4 p.advs.length c4] 97)) wx) => namesFault_any a1 _ c1 p.names wx ((hp.keep (hk1.trans k)).rnames) (by omega) (hg.keep (hk1.trans k)))
  have H2 := Lib.hid (fun (wx : World) (k : All (w.alloc (.cells #[.string p.key, .slice a1 p.names.length c1, .slice a2 p.homes.length c2, .slice a3 p.mails.length c3, .slice a4 p.advs.length c4] 97)) wx) => homesFault_any a2 _ c2 p.homes ps mb n wx ((hp.keep (hk1.trans k)).rhomes) (by omega) (hm.keep (hk1.trans k) trivial))
  have H3 := Lib.hid (fun (wx : World) (k : All (w.alloc (.cells #[.string p.key, .slice a1 p.names.length c1, .slice a2 p.homes.length c2, .slice a3 p.mails.length c3, .slice a4 p.advs.length c4] 97)) wx) => mailsFault_any a3 _ c3 p.mails wx ((hp.keep (hk1.trans k)).rmails) (by omega))
  have H4 := Lib.hid (fun (wx : World) (k : All (w.alloc (.cells #[.string p.key, .slice a1 p.names.length c1, .slice a2 p.homes.length c2, .slice a3 p.mails.length c3, .slice a4 p.advs.length c4] 97)) wx) => advisersFault_any p a1 c1 a2 c2 a3 c3 a4 c4 wx ((hp.keep (hk1.trans k)).radvs) (by omega))
  have HC := Lib.hid (fun (wx : World) (k : All (w.alloc (.cells #[.string p.key, .slice a1 p.names.length c1, .slice a2 p.homes.length c2, .slice a3 p.mails.length c3, .slice a4 p.advs.length c4] 97)) wx) => (⟨k.cell (cell_at (i := 0) hb9 rfl) trivial, k.cell (cell_at (i := 1) hb9 rfl) trivial, k.cell (cell_at (i := 2) hb9 rfl) trivial, k.cell (cell_at (i := 3) hb9 rfl) trivial, k.cell (cell_at (i := 4) hb9 rfl) trivial⟩ : _ ∧ _ ∧ _ ∧ _ ∧ _))
  obtain ⟨f1, hf1⟩ : ∃ z, z = namesF p.names := ⟨_, rfl⟩
  obtain ⟨f2, hf2⟩ : ∃ z, z = homesF ps p.homes := ⟨_, rfl⟩
  obtain ⟨f3, hf3⟩ : ∃ z, z = mailsF p.mails := ⟨_, rfl⟩
  obtain ⟨f4, hf4⟩ : ∃ z, z = advsF p.key p.advs := ⟨_, rfl⟩
  have HF := Lib.hid (show persF ps p = if f1 ≠ 0 then f1 else if f2 ≠ 0 then f2 else if f3 ≠ 0 then f3 else f4 from by rw [persF, hf1, hf2, hf3, hf4])
  rw [← hf1] at H1
  rw [← hf2] at H2
  rw [← hf3] at H3
  rw [← hf4] at H4
  have HK1 := Lib.hid hk1
  clear hf1 hf2 hf3 hf4 hxb hp hm hg hk1 hb9
  go_enter Tryz.func139, Tryz.ntmps139
  go_upto_region 1 with fail
  simp only [← HXB.out]
  generalize w.alloc (.cells #[.string p.key, .slice a1 p.names.length c1, .slice a2 p.homes.length c2, .slice a3 p.mails.length c3, .slice a4 p.advs.length c4] 97) = w9 at *
  go_cut [19, 20] (fun v t wx => v = .agg #[.int .i64 f1, .int .i64 f2, .int .i64 f3, .int .i64 f4] ∧ t = .int .i64 0 ∧ All w9 wx)
  case first =>
    refine wp_region_all (by kernel_rfl) (by kernel_rfl) (by kernel_rfl) (fun wx => All w9 wx) (DL [QIs (.pointer (some ⟨xb, 1, none⟩)), QIs (.slice a1 p.names.length c1), QIs (.int .i64 f1), QIs (.pointer (some ⟨xb, 2, none⟩)), QIs (.slice a2 p.homes.length c2), QIs (.map (some mb)), QIs (.int .i64 f2), QIs (.pointer (some ⟨xb, 3, none⟩)), QIs (.slice a3 p.mails.length c3), QIs (.int .i64 f3), QIs (.agg #[.string p.key, .slice a1 p.names.length c1, .slice a2 p.homes.length c2, .slice a3 p.mails.length c3, .slice a4 p.advs.length c4]), QIs (.int .i64 f4), QIs (.agg #[.int .i64 f1, .int .i64 f2, .int .i64 f3, .int .i64 f4]), QIs (.int .i64 0)]) All
      (DL.keep (by simp only [List.forall_mem_cons, List.not_mem_nil, false_implies, implies_true, and_true]; exact ⟨QIs.stays _, QIs.stays _, QIs.stays _, QIs.stays _, QIs.stays _, QIs.stays _, QIs.stays _, QIs.stays _, QIs.stays _, QIs.stays _, QIs.stays _, QIs.stays _, QIs.stays _, QIs.stays _⟩)) (Kept.drew _ _) ?_ ?_
    · intro i o t ho hd hi a' wx hg hdf hts hoth hdeps
      have hz : i = 0 ∨ i = 1 ∨ i = 2 ∨ i = 3 ∨ i = 4 ∨ i = 5 ∨ i = 6 ∨ i = 7 ∨ i = 8 ∨ i = 9 ∨ i = 10 ∨ i = 11 ∨ i = 12 ∨ i = 13 := by have : i < 14 := hi; omega
      rcases hz with rfl | rfl | rfl | rfl | rfl | rfl | rfl | rfl | rfl | rfl | rfl | rfl | rfl | rfl
      · obtain rfl := Option.some.inj ho
        obtain rfl := Option.some.inj hd
        have e0 : a'.tmps.getD 2 undef = .pointer (some ⟨xb, 0, none⟩) := tmp_of ((hoth 2 (by decide)).trans rfl)
        clear hoth hdeps hdf hts ho
        refine wp_via (fun K' hK => ?_)
        have HK := Lib.hid hK
        clear hK
        go_simp
        exact HK.out _ _ ⟨_, rfl, hg, Kept.refl _ _, rfl⟩
      · obtain rfl := Option.some.inj ho
        obtain rfl := Option.some.inj hd
        have e0 : a'.tmps.getD 7 undef = .pointer (some ⟨xb, 1, none⟩) := hdeps 0 (by decide) 7 rfl
        obtain ⟨q0, q1, q2, q3, q4⟩ := HC.out _ hg
        clear hoth hdeps hdf hts ho
        refine wp_via (fun K' hK => ?_)
        have HK := Lib.hid hK
        clear hK
        go_simp
        exact HK.out _ _ ⟨_, rfl, hg, Kept.refl _ _, rfl⟩
      · obtain rfl := Option.some.inj ho
        obtain rfl := Option.some.inj hd
        have e0 : a'.tmps.getD 8 undef = .slice a1 p.names.length c1 := hdeps 1 (by decide) 8 rfl
        clear hoth hdeps hdf hts ho
        refine wp_via (fun K' hK => ?_)
        have HK := Lib.hid hK
        clear hK
        go_simp
        refine (H1.out _ hg).mono ?_
        rintro e w4 ⟨rfl, hw4⟩
        exact HK.out _ _ ⟨_, rfl, hg.trans hw4, hw4, rfl⟩
      · obtain rfl := Option.some.inj ho
        obtain rfl := Option.some.inj hd
        have e0 : a'.tmps.getD 2 undef = .pointer (some ⟨xb, 0, none⟩) := tmp_of ((hoth 2 (by decide)).trans rfl)
        clear hoth hdeps hdf hts ho
        refine wp_via (fun K' hK => ?_)
        have HK := Lib.hid hK
        clear hK
        go_simp
        exact HK.out _ _ ⟨_, rfl, hg, Kept.refl _ _, rfl⟩
      · obtain rfl := Option.some.inj ho
        obtain rfl := Option.some.inj hd
        have e0 : a'.tmps.getD 10 undef = .pointer (some ⟨xb, 2, none⟩) := hdeps 3 (by decide) 10 rfl
        obtain ⟨q0, q1, q2, q3, q4⟩ := HC.out _ hg
        clear hoth hdeps hdf hts ho
        refine wp_via (fun K' hK => ?_)
        have HK := Lib.hid hK
        clear hK
        go_simp
        exact HK.out _ _ ⟨_, rfl, hg, Kept.refl _ _, rfl⟩
      · obtain rfl := Option.some.inj ho
        obtain rfl := Option.some.inj hd
        have e0 : a'.tmps.getD 1 undef = .map (some mb) := tmp_of ((hoth 1 (by decide)).trans rfl)
        clear hoth hdeps hdf hts ho
        refine wp_via (fun K' hK => ?_)
        have HK := Lib.hid hK
        clear hK
        go_simp
        exact HK.out _ _ ⟨_, rfl, hg, Kept.refl _ _, rfl⟩
      · obtain rfl := Option.some.inj ho
        obtain rfl := Option.some.inj hd
        have e0 : a'.tmps.getD 11 undef = .slice a2 p.homes.length c2 := hdeps 4 (by decide) 11 rfl
        have e1 : a'.tmps.getD 12 undef = .map (some mb) := hdeps 5 (by decide) 12 rfl
        clear hoth hdeps hdf hts ho
        refine wp_via (fun K' hK => ?_)
        have HK := Lib.hid hK
        clear hK
        go_simp
        refine (H2.out _ hg).mono ?_
        rintro e w4 ⟨rfl, hw4⟩
        exact HK.out _ _ ⟨_, rfl, hg.trans hw4, hw4, rfl⟩
      · obtain rfl := Option.some.inj ho
        obtain rfl := Option.some.inj hd
        have e0 : a'.tmps.getD 2 undef = .pointer (some ⟨xb, 0, none⟩) := tmp_of ((hoth 2 (by decide)).trans rfl)
        clear hoth hdeps hdf hts ho
        refine wp_via (fun K' hK => ?_)
        have HK := Lib.hid hK
        clear hK
        go_simp
        exact HK.out _ _ ⟨_, rfl, hg, Kept.refl _ _, rfl⟩
      · obtain rfl := Option.some.inj ho
        obtain rfl := Option.some.inj hd
        have e0 : a'.tmps.getD 14 undef = .pointer (some ⟨xb, 3, none⟩) := hdeps 7 (by decide) 14 rfl
        obtain ⟨q0, q1, q2, q3, q4⟩ := HC.out _ hg
        clear hoth hdeps hdf hts ho
        refine wp_via (fun K' hK => ?_)
        have HK := Lib.hid hK
        clear hK
        go_simp
        exact HK.out _ _ ⟨_, rfl, hg, Kept.refl _ _, rfl⟩
      · obtain rfl := Option.some.inj ho
        obtain rfl := Option.some.inj hd
        have e0 : a'.tmps.getD 15 undef = .slice a3 p.mails.length c3 := hdeps 8 (by decide) 15 rfl
        clear hoth hdeps hdf hts ho
        refine wp_via (fun K' hK => ?_)
        have HK := Lib.hid hK
        clear hK
        go_simp
        refine (H3.out _ hg).mono ?_
        rintro e w4 ⟨rfl, hw4⟩
        exact HK.out _ _ ⟨_, rfl, hg.trans hw4, hw4, rfl⟩
      · obtain rfl := Option.some.inj ho
        obtain rfl := Option.some.inj hd
        have e0 : a'.tmps.getD 2 undef = .pointer (some ⟨xb, 0, none⟩) := tmp_of ((hoth 2 (by decide)).trans rfl)
        obtain ⟨q0, q1, q2, q3, q4⟩ := HC.out _ hg
        clear hoth hdeps hdf hts ho
        refine wp_via (fun K' hK => ?_)
        have HK := Lib.hid hK
        clear hK
        go_simp
        exact HK.out _ _ ⟨_, rfl, hg, Kept.refl _ _, rfl⟩
      · obtain rfl := Option.some.inj ho
        obtain rfl := Option.some.inj hd
        have e0 : a'.tmps.getD 17 undef = .agg #[.string p.key, .slice a1 p.names.length c1, .slice a2 p.homes.length c2, .slice a3 p.mails.length c3, .slice a4 p.advs.length c4] := hdeps 10 (by decide) 17 rfl
        clear hoth hdeps hdf hts ho
        refine wp_via (fun K' hK => ?_)
        have HK := Lib.hid hK
        clear hK
        go_simp
        refine (H4.out _ hg).mono ?_
        rintro e w4 ⟨rfl, hw4⟩
        exact HK.out _ _ ⟨_, rfl, hg.trans hw4, hw4, rfl⟩
      · obtain rfl := Option.some.inj ho
        obtain rfl := Option.some.inj hd
        have e0 : a'.tmps.getD 9 undef = .int .i64 f1 := hdeps 2 (by decide) 9 rfl
        have e0' : a'.tmps[9]?.getD undef = .int .i64 f1 := by rw [← Array.getD_eq_getD_getElem?]; exact e0
        have e1 : a'.tmps.getD 13 undef = .int .i64 f2 := hdeps 6 (by decide) 13 rfl
        have e1' : a'.tmps[13]?.getD undef = .int .i64 f2 := by rw [← Array.getD_eq_getD_getElem?]; exact e1
        have e2 : a'.tmps.getD 16 undef = .int .i64 f3 := hdeps 9 (by decide) 16 rfl
        have e2' : a'.tmps[16]?.getD undef = .int .i64 f3 := by rw [← Array.getD_eq_getD_getElem?]; exact e2
        have e3 : a'.tmps.getD 18 undef = .int .i64 f4 := hdeps 11 (by decide) 18 rfl
        have e3' : a'.tmps[18]?.getD undef = .int .i64 f4 := by rw [← Array.getD_eq_getD_getElem?]; exact e3
        clear hoth hdeps hdf hts ho
        refine wp_via (fun K' hK => ?_)
        have HK := Lib.hid hK
        clear hK
        go_simp
        exact HK.out _ _ ⟨_, rfl, hg, Kept.refl _ _, rfl⟩
      · obtain rfl := Option.some.inj ho
        obtain rfl := Option.some.inj hd
        clear hoth hdeps hdf hts ho
        refine wp_via (fun K' hK => ?_)
        have HK := Lib.hid hK
        clear hK
        go_simp
        exact HK.out _ _ ⟨_, rfl, hg, Kept.refl _ _, rfl⟩
    · intro wx f hg hd
      have e19 : f 19 = .agg #[.int .i64 f1, .int .i64 f2, .int .i64 f3, .int .i64 f4] := hd 12 19 (by decide) rfl
      have e20 : f 20 = .int .i64 0 := hd 13 20 (by decide) rfl
      rw [show dsts _ _ = [7, 8, 9, 10, 11, 12, 13, 14, 15, 16, 17, 18, 19, 20] from by kernel_rfl]
      simp only [List.map_cons, List.map_nil, puts, Act.put, e19, e20]
      generalize f 7 = f7
      generalize f 8 = f8
      generalize f 9 = f9
      generalize f 10 = f10
      generalize f 11 = f11
      generalize f 12 = f12
      generalize f 13 = f13
      generalize f 14 = f14
      generalize f 15 = f15
      generalize f 16 = f16
      generalize f 17 = f17
      generalize f 18 = f18
      simp only [List.setIfInBounds_toArray, List.set_cons_zero, List.set_cons_succ]
      clear hd e19 e20 f
      go_wp2_with fail
      go_meet
      exact ⟨rfl, rfl, hg⟩
  case rest =>
    obtain ⟨rfl, rfl, hall⟩ := hcut
    obtain ⟨wz, rfl⟩ : ∃ z : World, z = wc := ⟨_, rfl⟩
    have HALL := Lib.hid (HK1.out.trans hall)
    clear hall H1 H2 H3 H4 HC
    have i0 : ∀ W : World, (Instr.index 223 (.agg #[.int .i64 f1, .int .i64 f2, .int .i64 f3, .int .i64 f4]) (.int .i64 0)).run Tryz.prog W = .ok (.int .i64 f1) W := fun _ => rfl
    have i1 : ∀ W : World, (Instr.index 223 (.agg #[.int .i64 f1, .int .i64 f2, .int .i64 f3, .int .i64 f4]) (.int .i64 1)).run Tryz.prog W = .ok (.int .i64 f2) W := fun _ => rfl
    have i2 : ∀ W : World, (Instr.index 223 (.agg #[.int .i64 f1, .int .i64 f2, .int .i64 f3, .int .i64 f4]) (.int .i64 2)).run Tryz.prog W = .ok (.int .i64 f3) W := fun _ => rfl
    have i3 : ∀ W : World, (Instr.index 223 (.agg #[.int .i64 f1, .int .i64 f2, .int .i64 f3, .int .i64 f4]) (.int .i64 3)).run Tryz.prog W = .ok (.int .i64 f4) W := fun _ => rfl
    go_wp2_with fail
    go_loopw [20] (fun i wr => ∃ k : Nat, k ≤ 4 ∧ i = .int .i64 k ∧ (0 < k → f1 = 0) ∧ (1 < k → f2 = 0) ∧ (2 < k → f3 = 0) ∧ (3 < k → f4 = 0) ∧ wr = wz) (fun i _ => 4 - (intOf i).toNat)
    case atStart => exact ⟨0, by omega, rfl, fun h => absurd h (by omega), fun h => absurd h (by omega), fun h => absurd h (by omega), fun h => absurd h (by omega), rfl⟩
    case round =>
      obtain ⟨k, hk, rfl, g1, g2, g3, g4, rfl⟩ := hrel
      have hk4 : k = 0 ∨ k = 1 ∨ k = 2 ∨ k = 3 ∨ k = 4 := by omega
      rcases hk4 with rfl | rfl | rfl | rfl | rfl
      · have G1 := Lib.hid g1
        have G2 := Lib.hid g2
        have G3 := Lib.hid g3
        clear g1 g2 g3 g4
        by_cases h : f1 ≠ 0
        · have HP := Lib.hid (show persF ps p = f1 from by rw [HF.out, if_pos h])
          have hn : (f1 != 0) = true := by simpa using h
          go_wp2_with fail
          go_ret
          exact ⟨ret_int' HP.out.symm, HALL.out⟩
        · have h : f1 = 0 := Classical.not_not.1 h
          have hn : (f1 != 0) = false := by rw [h]; rfl
          have G4 := Lib.hid h
          clear h
          go_wp2_with fail
          go_roundw
          case rel => have h := G4.out; exact ⟨1, by omega, by go_num, fun _ => h, fun h => absurd h (by omega), fun h => absurd h (by omega), fun h => absurd h (by omega), by first | rfl | trivial⟩
          case measure => simp [intOf]
      · have G1 := Lib.hid g1
        have G2 := Lib.hid g2
        have G3 := Lib.hid g3
        clear g1 g2 g3 g4
        by_cases h : f2 ≠ 0
        · have HP := Lib.hid (show persF ps p = f2 from by rw [HF.out, if_neg (by rw [G1.out (by omega)]; simp), if_pos h])
          have hn : (f2 != 0) = true := by simpa using h
          go_wp2_with fail
          go_ret
          exact ⟨ret_int' HP.out.symm, HALL.out⟩
        · have h : f2 = 0 := Classical.not_not.1 h
          have hn : (f2 != 0) = false := by rw [h]; rfl
          have G4 := Lib.hid h
          clear h
          go_wp2_with fail
          go_roundw
          case rel => have h := G4.out; exact ⟨2, by omega, by go_num, fun _ => G1.out (by omega), fun _ => h, fun h => absurd h (by omega), fun h => absurd h (by omega), by first | rfl | trivial⟩
          case measure => simp [intOf]
      · have G1 := Lib.hid g1
        have G2 := Lib.hid g2
        have G3 := Lib.hid g3
        clear g1 g2 g3 g4
        by_cases h : f3 ≠ 0
        · have HP := Lib.hid (show persF ps p = f3 from by rw [HF.out, if_neg (by rw [G1.out (by omega)]; simp), if_neg (by rw [G2.out (by omega)]; simp), if_pos h])
          have hn : (f3 != 0) = true := by simpa using h
          go_wp2_with fail
          go_ret
          exact ⟨ret_int' HP.out.symm, HALL.out⟩
        · have h : f3 = 0 := Classical.not_not.1 h
          have hn : (f3 != 0) = false := by rw [h]; rfl
          have G4 := Lib.hid h
          clear h
          go_wp2_with fail
          go_roundw
          case rel => have h := G4.out; exact ⟨3, by omega, by go_num, fun _ => G1.out (by omega), fun _ => G2.out (by omega), fun _ => h, fun h => absurd h (by omega), by first | rfl | trivial⟩
          case measure => simp [intOf]
      · have G1 := Lib.hid g1
        have G2 := Lib.hid g2
        have G3 := Lib.hid g3
        clear g1 g2 g3 g4
        by_cases h : f4 ≠ 0
        · have HP := Lib.hid (show persF ps p = f4 from by rw [HF.out, if_neg (by rw [G1.out (by omega)]; simp), if_neg (by rw [G2.out (by omega)]; simp), if_neg (by rw [G3.out (by omega)]; simp)])
          have hn : (f4 != 0) = true := by simpa using h
          go_wp2_with fail
          go_ret
          exact ⟨ret_int' HP.out.symm, HALL.out⟩
        · have h : f4 = 0 := Classical.not_not.1 h
          have hn : (f4 != 0) = false := by rw [h]; rfl
          have G4 := Lib.hid h
          clear h
          go_wp2_with fail
          go_roundw
          case rel => have h := G4.out; exact ⟨4, by omega, by go_num, fun _ => G1.out (by omega), fun _ => G2.out (by omega), fun _ => G3.out (by omega), fun _ => h, by first | rfl | trivial⟩
          case measure => simp [intOf]
      · have HP := Lib.hid (show persF ps p = 0 from by rw [HF.out, if_neg (by rw [g1 (by omega)]; simp), if_neg (by rw [g2 (by omega)]; simp), if_neg (by rw [g3 (by omega)]; simp), g4 (by omega)])
        clear g1 g2 g3 g4
        go_wp2_with fail
        go_ret
        exact ⟨ret_int' HP.out.symm, HALL.out⟩
end Go.Proofs.YtgobnlgmbplggaaGreatDoor
