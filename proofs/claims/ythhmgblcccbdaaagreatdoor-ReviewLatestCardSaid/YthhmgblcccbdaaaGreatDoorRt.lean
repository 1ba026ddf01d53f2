/- when and errs of the laws. -/
import Derived.Test.YthhmgblcccbdaaaGreatDoorQc
import Derived.Test.YthhmgblcccbdaaaGreatDoorRs
import Derived.Test.YthhmgblcccbdaaaGreatDoorBz
import Derived.Test.YthhmgblcccbdaaaGreatDoorBg
namespace Go.Proofs.YthhmgblcccbdaaaGreatDoor
open Go.RowKit

theorem whenV_any (is : Bool) (n : Int) (w : World) : Calls Tryz.prog 26 #[.bool is, .int .i64 n] w fun e w' => e = .returned (.int .i64 (if is = true then n else 0)) ∧ w = w' := by
  cases is
  · go_enter Tryz.func26, Tryz.ntmps26
    go_wp2
    go_ret
    exact ⟨rfl, rfl⟩
  · go_enter Tryz.func26, Tryz.ntmps26
    go_wp2
    go_ret
    exact ⟨rfl, rfl⟩

/-- The first error of a list. -/
def firstV : List Int → Int
  | [] => 0
  | e :: l => if e ≠ 0 then e else firstV l
theorem errsV_any (a : Option Addr) (len cap : Nat) (es : List Int) (w : World) (hs : Sl RInt 1 (fun _ => True) w a len es) (hl : len ≤ 1000000) :
    Calls Tryz.prog 20 #[.slice a len cap] w fun e w' => e = .returned (.int .i64 (firstV es)) ∧ w = w' := by
  have hlen := hs.len
  go_enter Tryz.func20, Tryz.ntmps20
  go_wp2
  go_loop [4, 7] (fun _ i => ∃ k : Nat, k ≤ len ∧ i = .int .i64 k ∧ firstV es = firstV (es.drop k)) (fun _ i => len - (intOf i).toNat)
  case atStart => exact ⟨0, Nat.zero_le _, rfl, by simp⟩
  case round =>
    obtain ⟨k, hk, rfl, hat⟩ := hrel
    have Hat := Lib.hid hat
    clear hat
    by_cases hlt : k < len
    · obtain ⟨b, off, y, ha, -, hck, hy, -, -⟩ := hs.atInt hlt
      subst ha
      by_cases h0 : y = 0
      · have hb : (y != 0) = false := by simp [h0]
        have hn : firstV es = firstV (es.drop (k + 1)) := by rw [Hat.out, drop_at hy, firstV, if_neg (by simp [h0])]
        have Hn := Lib.hid hn
        clear hn h0 hlen
        go_wp2_with fail
        go_round
        case rel => exact ⟨k + 1, by omega, by go_num, Hn.out⟩
        case measure => simp [intOf]; omega
      · have hb : (y != 0) = true := by simp [h0]
        have hn : firstV es = y := by rw [Hat.out, drop_at hy, firstV, if_pos h0]
        have Hn := Lib.hid hn
        clear hn hlen
        go_wp2_with fail
        go_ret
        exact ⟨ret_int' Hn.out.symm, rfl⟩
    · have hd : decide ((k : Int) < (len : Int)) = false := by simp; omega
      have hfin : firstV es = 0 := by rw [Hat.out, List.drop_of_length_le (by omega)]; rfl
      have Hfin := Lib.hid hfin
      clear hfin
      go_wp2
      go_ret
      exact ⟨ret_int' Hfin.out.symm, rfl⟩
end Go.Proofs.YthhmgblcccbdaaaGreatDoor

/- Latest; what the law ReviewLatest asks besides. -/
namespace Go.Proofs.YthhmgblcccbdaaaGreatDoor
open Go.RowKit

theorem moment10_any (σ : St) (n : Nat) (w : World) (hs : Str σ w n) (hn : n ≤ 4611686018427380000) :
    Calls Tryz.prog 18 #[.pointer (some ⟨σ.b, 0, none⟩)] w (StPost σ n 1 w (IsNum fun r => -1 ≤ r ∧ r ≤ 5761440)) := by
  have hl := hs.lt
  go_enter Tryz.func18, Tryz.ntmps18
  go_wp2_with fail
  refine (pick_any σ n _ 12 12 [0, 10, 100, 1000, 1440, 2000, 2880, 5000, 9000, 5761439, (-1), 5761440] _ (hs.keep (Kept.alloc _ _ _)) (by omega) (Sl.lit_ints _ (heap_at w _ _ rfl) rfl (by omega)) (by omega) (by omega)).mono ?_
  rintro e w2 ⟨v, n2, rfl, ⟨r, rfl, hr⟩, hA2, hB2, hs2, hb2⟩
  have hr2 : -1 ≤ r ∧ r ≤ 5761440 := by simp at hr; omega
  have hb3 := (Kept.alloc (fun k => k ≠ σ.b) w (.cells #[.int .i64 0, .int .i64 10, .int .i64 100, .int .i64 1000, .int .i64 1440, .int .i64 2000, .int .i64 2880, .int .i64 5000, .int .i64 9000, .int .i64 5761439, .int .i64 (-1), .int .i64 5761440] 3)).trans hb2
  clear hr hb2
  go_wp2_with fail
  go_ret
  exact ⟨_, n2, rfl, ⟨r, rfl, hr2⟩, hA2, hB2, hs2, hb3⟩
theorem momentFault_any (n : Int) (w : World) : Calls Tryz.prog 22 #[.int .i64 n] w fun e w' => e = .returned (.int .i64 (if 0 ≤ n ∧ n < 5761440 then 0 else 1)) ∧ w = w' := by
  by_cases h1 : n < 0
  · have d1 : decide (n < 0) = true := by simpa using h1
    go_enter Tryz.func22, Tryz.ntmps22
    go_wp2_with fail
    refine (whenV_any true 1 _).mono ?_
    rintro e w' ⟨rfl, rfl⟩
    go_wp2_with fail
    go_ret
    exact ⟨rfl, rfl⟩
  · have d1 : decide (n < 0) = false := by simpa using h1
    by_cases h2 : 5761440 ≤ n
    · have d2 : decide (5761440 ≤ n) = true := by simpa using h2
      go_enter Tryz.func22, Tryz.ntmps22
      go_wp2_with fail
      refine (whenV_any true 1 _).mono ?_
      rintro e w' ⟨rfl, rfl⟩
      go_wp2_with fail
      go_ret
      exact ⟨rfl, rfl⟩
    · have d2 : decide (5761440 ≤ n) = false := by simpa using h2
      go_enter Tryz.func22, Tryz.ntmps22
      go_wp2_with fail
      refine (whenV_any false 1 _).mono ?_
      rintro e w' ⟨rfl, rfl⟩
      go_wp2_with fail
      go_ret
      exact ⟨rfl, rfl⟩
theorem pairFault_any (a0 : Option Addr) (l0 c0 : Nat) (a1 : Option Addr) (l1 c1 : Nat) (a2 : Option Addr) (l2 c2 : Nat) (a3 : Option Addr) (l3 c3 : Nat) (a4 : Option Addr) (l4 c4 : Nat) (s : Set7) (q : Pair2) (w : World) (his : SetIs (fun _ => True) w a0 l0 a1 l1 a2 l2 a3 l3 a4 l4 s) :
    Calls Tryz.prog 21 #[.agg #[.slice a0 l0 c0, .slice a1 l1 c1, .slice a2 l2 c2, .slice a3 l3 c3, .slice a4 l4 c4, .int .i64 s.due, .int .i64 s.reply], .agg #[.string q.paper, .string q.person]] w fun e w' => e = .returned (.int .i64 (if inP s.pairs q.paper q.person = true then 0 else 8)) ∧ All w w' := by
  have hk1 : All w ((w.alloc (.cells #[.slice a0 l0 c0, .slice a1 l1 c1, .slice a2 l2 c2, .slice a3 l3 c3, .slice a4 l4 c4, .int .i64 s.due, .int .i64 s.reply] 31)).alloc (.cells #[.string q.paper, .string q.person] 38)) := (Kept.alloc _ _ _).then_alloc _
  have hb := heap_old (.cells #[.string q.paper, .string q.person] 38) (heap_at w (.cells #[.slice a0 l0 c0, .slice a1 l1 c1, .slice a2 l2 c2, .slice a3 l3 c3, .slice a4 l4 c4, .int .i64 s.due, .int .i64 s.reply] 31) _ rfl)
  have hp := heap_at (w.alloc (.cells #[.slice a0 l0 c0, .slice a1 l1 c1, .slice a2 l2 c2, .slice a3 l3 c3, .slice a4 l4 c4, .int .i64 s.due, .int .i64 s.reply] 31)) (.cells #[.string q.paper, .string q.person] 38) (w.heap.size + 1) (by simp)
  have HC := Lib.hid (containsP_any a2 l2 c2 s.pairs q.paper q.person _ (his.pairs.keep RPair.ok hk1) his.n2)
  have e0 := cell_at (i := 0) hb rfl
  have e1 := cell_at (i := 1) hb rfl
  have e2 := cell_at (i := 2) hb rfl
  have e3 := cell_at (i := 3) hb rfl
  have e4 := cell_at (i := 4) hb rfl
  have e5 := cell_at (i := 5) hb rfl
  have e6 := cell_at (i := 6) hb rfl
  have d0 := cell_at (i := 0) hp rfl
  have d1 := cell_at (i := 1) hp rfl
  obtain ⟨z, hz⟩ : ∃ z : Int, z = if inP s.pairs q.paper q.person = true then 0 else 8 := ⟨_, rfl⟩
  have HZ := Lib.hid hz
  rw [← hz]
  clear hb hp his hz
  go_enter Tryz.func21, Tryz.ntmps21
  go_wp2_with fail
  refine HC.out.mono ?_
  rintro e w2 ⟨rfl, hw2⟩
  cases hin : inP s.pairs q.paper q.person with
  | true =>
    go_wp2_with fail
    refine (whenV_any false 8 _).mono ?_
    rintro e w' ⟨rfl, rfl⟩
    go_wp2_with fail
    go_ret
    exact ⟨ret_int' (show (0 : Int) = z by rw [HZ.out, hin]; rfl), hk1.trans hw2⟩
  | false =>
    go_wp2_with fail
    refine (whenV_any true 8 _).mono ?_
    rintro e w' ⟨rfl, rfl⟩
    go_wp2_with fail
    go_ret
    exact ⟨ret_int' (show (8 : Int) = z by rw [HZ.out, hin]; rfl), hk1.trans hw2⟩

/-- The error of Latest. -/
noncomputable def latE (s : Set7) (xs : List Rev) (q : Pair2) (tm : Int) : Int := firstV [revsF s xs, if inP s.pairs q.paper q.person = true then 0 else 8, if 0 ≤ tm ∧ tm < 5761440 then 0 else 1]
theorem latE_1 {s : Set7} {xs : List Rev} {q : Pair2} {tm : Int} (h : revsF s xs ≠ 0) : latE s xs q tm = revsF s xs := by rw [latE, firstV, if_pos h]
theorem latE_2 {s : Set7} {xs : List Rev} {q : Pair2} {tm : Int} (h : revsF s xs = 0) (h2 : inP s.pairs q.paper q.person = false) : latE s xs q tm = 8 := by
  rw [latE, firstV, if_neg (fun e => e h), h2]
  rfl
theorem latE_3 {s : Set7} {xs : List Rev} {q : Pair2} {tm : Int} (h : revsF s xs = 0) (h2 : inP s.pairs q.paper q.person = true) : latE s xs q tm = if 0 ≤ tm ∧ tm < 5761440 then 0 else 1 := by
  rw [latE, firstV, if_neg (fun e => e h), firstV, if_pos h2, if_neg (by simp), firstV]
  by_cases h3 : 0 ≤ tm ∧ tm < 5761440
  · rw [if_pos h3]; rfl
  · rw [if_neg h3]; rfl
/-- What Latest gives back. -/
def LatV (er : Int) (o : Option Raw) (e : Ending) (w' : World) : Prop :=
  ∃ (x : Rev) (aa : Option Addr) (ac : Nat), e = .returned (.tuple #[.agg (revC x aa ac), .bool (decide (er = 0) && o.isSome), .int .i64 er]) ∧ Sl RAns 4 (fun _ => True) w' aa x.answers.length x.answers ∧ RevSmall x ∧ x = if er = 0 then (o.getD raw0).1 else raw0.1
theorem LatV.bad {er : Int} {o : Option Raw} {w' : World} (h : er ≠ 0) : LatV er o (.returned (.tuple #[.agg #[.int .i64 0, .int .i64 0, .string ⟨#[]⟩, .string ⟨#[]⟩, .string ⟨#[]⟩, .bool false, .slice none 0 0], .bool false, .int .i64 er])) w' :=
  ⟨raw0.1, none, 0, by rw [decide_eq_false h]; rfl, Sl.nil _ _ _ _ _, by unfold RevSmall; decide, by rw [if_neg h]⟩
/-- A pointer to a new block. -/
def QNewP (B : Nat) (T : TypeId) (zs : Array Value) (v : Value) (w : World) : Prop := ∃ b, v = .pointer (some ⟨b, 0, none⟩) ∧ B ≤ b ∧ w.heap[b]? = some (.cells zs T (0, 0))
theorem QNewP.stays (B : Nat) (T : TypeId) (zs : Array Value) : Stays All (QNewP B T zs) := fun _ _ _ k ⟨b, h1, h2, h3⟩ => ⟨b, h1, h2, k.heap h3 trivial⟩
/-- A book in memory, by its pointer. -/
def QBook (cs : Array Value) (ts : List Raw) (v : Value) (w : World) : Prop := ∃ kb, v = .pointer (some ⟨kb, 0, none⟩) ∧ BookIs w kb cs ts
theorem QBook.stays (cs : Array Value) (ts : List Raw) : Stays All (QBook cs ts) := fun _ _ _ k ⟨b, h1, h2⟩ => ⟨b, h1, h2.keep k⟩

theorem wp_region_genL {P : Program} {ops : Array Oper} {Q : Exit → Act → World → Prop} {id : Nat} {a0 : Act} {w0 : World} (z : Nat) (hm : P.follows .mixedOrders = true) (hform : (formOk ops z a0.tmps.size && plainOk ops z) = true)
    (G : (Nat → Bool) → Act → World → Prop) (D : Nat → Act → World → Prop) (M : Nat → Act → Value → World → World → Prop) (hM : ∀ i j L a w v w', i < z → j < z → i ≠ j → j ∉ depsOf ops i → G L a w → M j a v w w' → D i a w → D i (a.put (dstAt ops j) v) w') (hG : G (fun _ => false) a0 w0.drew)
    (hstep : ∀ i o, ops[i]? = some o → i < z → ∀ L a w, G L a w → L i = false → a.defers = a0.defers → a.tmps.size = a0.tmps.size → (∀ t, t ∉ dsts ops z → a.tmps[t]? = a0.tmps[t]?) →
      (∀ j ∈ depsOf ops i, D j a w) → o.wp P a w (fun a' w' => ∃ v, a' = a.put o.dst v ∧ G (fun j => if j = i then true else L j) (a.put o.dst v) w' ∧ M i a v w w' ∧ D i (a.put o.dst v) w') Q)
    (hlast : ∀ L w a, G L a w → a.tmps.size = a0.tmps.size → (∀ i, i < z → D i a w) → wpList P ops Q (ops.toList.drop z) (puts a0 ((dsts ops z).map fun t => (t, a.tmps.getD t undef))) w) :
    (Code.region id ops true).wp P Q a0 w0 := by
  obtain ⟨hf, hpl⟩ := Bool.and_eq_true_iff.1 hform
  refine wp_region_full z hm hf (fun _ L a w => G L a w) D M (fun i j _ L a w v w' => hM i j L a w v w') hG (fun i o ho hi _ L a w _ hg hL h1 h2 h3 h4 => ?_) (fun w a L hg hs hd => hlast L w a hg hs hd)
  rw [if_pos (by simp [Region.wanted, plainOk.guard hpl hi ho])]
  exact hstep i o ho hi L a w hg hL h1 h2 h3 h4
/-- What holds while the operations of Latest's last region come: nothing old changes; slot 37 is not written ahead of operation 5. -/
def GLat (wa : World) (L : Nat → Bool) (a : Act) (w : World) : Prop := All wa w ∧ (L 5 = false → a.tmps.getD 37 undef = undef)
theorem GLat.step {wa w w' : World} {L : Nat → Bool} {a : Act} {i : Nat} {d : Option Tmp} {v : Value} (h : GLat wa L a w) (hi : i ≠ 5) (hd : d ≠ some 37) (k : All w w') : GLat wa (fun j => if j = i then true else L j) (a.put d v) w' :=
  ⟨h.1.trans k, fun hL => by rw [put_at v hd]; exact h.2 (by simpa [show ¬ 5 = i from fun e => hi e.symm] using hL)⟩
/-- What they leave. -/
def DLat (ag sl pr tv tp xa iv : Value) (cs : Array Value) (ts : List Raw) (B : Nat) (xc : Array Value) : Nat → Act → World → Prop
  | 0 => fun a _ => a.tmps.getD 32 undef = ag
  | 1 => fun a _ => a.tmps.getD 33 undef = sl
  | 2 => fun a w => a.tmps.getD 37 undef = tp ∨ QBook cs ts (a.tmps.getD 34 undef) w
  | 3 => fun a _ => a.tmps.getD 35 undef = pr
  | 4 => fun a _ => a.tmps.getD 36 undef = tv
  | 5 => fun a _ => a.tmps.getD 37 undef = tp
  | 6 => fun a _ => a.tmps.getD 31 undef = tp
  | 7 => fun a _ => a.tmps.getD 38 undef = xa
  | 8 => fun a _ => a.tmps.getD 39 undef = iv
  | 9 => fun a w => ∃ b, a.tmps.getD 12 undef = .pointer (some ⟨b, 0, none⟩) ∧ B ≤ b ∧ ∃ v0 v1 v2 v3 v4 v5 v6, w.heap[b]? = some (.cells #[v0, v1, v2, v3, v4, v5, v6] 45 (0, 0))
  | _ => fun a w => ∃ b, a.tmps.getD 12 undef = .pointer (some ⟨b, 0, none⟩) ∧ B ≤ b ∧ w.heap[b]? = some (.cells xc 45 (0, 0))
def MLat (tp : Value) (B : Nat) (_xc : Array Value) (j : Nat) (a : Act) (v : Value) (w w' : World) : Prop :=
  if j = 10 then a.tmps.getD 37 undef = tp ∧ ∃ b, a.tmps.getD 12 undef = .pointer (some ⟨b, 0, none⟩) ∧ B ≤ b ∧ ∃ v0 v1 v2 v3 v4 v5 v6, w'.heap[b]? = some (.cells #[v0, v1, v2, v3, v4, v5, v6] 45 (0, 0)) else All w w' ∧ (j = 5 → v = tp)
theorem MLat.all {tp : Value} {B : Nat} {xc : Array Value} {j : Nat} {a : Act} {v : Value} {w w' : World} (h : j ≠ 10 ∧ j ≠ 5) (k : All w w') : MLat tp B xc j a v w w' := by
  rw [MLat, if_neg h.1]; exact ⟨k, fun e => absurd e h.2⟩
theorem DLat.keep {ag sl pr tv tp xa iv : Value} {cs : Array Value} {ts : List Raw} {B : Nat} {xc : Array Value} {ops : Array Oper} (hd : ∀ i, i < 11 → dstAt ops i = [some 32, some 33, some 34, some 35, some 36, some 37, some 31, some 38, some 39, some 12, none].getD i none) (h9 : 9 ∈ depsOf ops 10)
    (i j : Nat) (a : Act) (w : World) (v : Value) (w' : World) (hi : i < 11) (hj : j < 11) (hij : i ≠ j) (hdep : j ∉ depsOf ops i) (hs : a.tmps.size = 43) (hm : MLat tp B xc j a v w w') (h : DLat ag sl pr tv tp xa iv cs ts B xc i a w) : DLat ag sl pr tv tp xa iv cs ts B xc i (a.put (dstAt ops j) v) w' := by
  have hne : ∀ t, [some 32, some 33, some 34, some 35, some 36, some 37, some 31, some 38, some 39, some 12, (none : Option Tmp)].getD j none ≠ some t → (a.put (dstAt ops j) v).tmps.getD t undef = a.tmps.getD t undef := fun t ht => put_at v (by rw [hd j hj]; exact ht)
  have hcj : j = 0 ∨ j = 1 ∨ j = 2 ∨ j = 3 ∨ j = 4 ∨ j = 5 ∨ j = 6 ∨ j = 7 ∨ j = 8 ∨ j = 9 ∨ j = 10 := by omega
  have hci : i = 0 ∨ i = 1 ∨ i = 2 ∨ i = 3 ∨ i = 4 ∨ i = 5 ∨ i = 6 ∨ i = 7 ∨ i = 8 ∨ i = 9 ∨ i = 10 := by omega
  rcases hci with rfl | rfl | rfl | rfl | rfl | rfl | rfl | rfl | rfl | rfl | rfl
  · show (a.put (dstAt ops j) v).tmps.getD 32 undef = _
    rw [hne 32 (by rcases hcj with rfl | rfl | rfl | rfl | rfl | rfl | rfl | rfl | rfl | rfl | rfl <;> first | decide | exact absurd rfl hij)]
    exact h
  · show (a.put (dstAt ops j) v).tmps.getD 33 undef = _
    rw [hne 33 (by rcases hcj with rfl | rfl | rfl | rfl | rfl | rfl | rfl | rfl | rfl | rfl | rfl <;> first | decide | exact absurd rfl hij)]
    exact h
  · show (a.put (dstAt ops j) v).tmps.getD 37 undef = tp ∨ QBook cs ts ((a.put (dstAt ops j) v).tmps.getD 34 undef) w'
    by_cases h5 : j = 5
    · subst h5
      rw [MLat, if_neg (by decide)] at hm
      left
      rw [hd 5 (by decide)]
      exact (put_same _ (show 37 < a.tmps.size by omega)).trans (hm.2 rfl)
    · have e37 := hne 37 (by rcases hcj with rfl | rfl | rfl | rfl | rfl | rfl | rfl | rfl | rfl | rfl | rfl <;> first | decide | exact absurd rfl h5)
      have e34 := hne 34 (by rcases hcj with rfl | rfl | rfl | rfl | rfl | rfl | rfl | rfl | rfl | rfl | rfl <;> first | decide | exact absurd rfl hij)
      rw [e37, e34]
      by_cases h10 : j = 10
      · rw [MLat, if_pos h10] at hm; exact Or.inl hm.1
      · rw [MLat, if_neg h10] at hm
        rcases h with h | h
        · exact Or.inl h
        · exact Or.inr (QBook.stays _ _ _ _ _ hm.1 h)
  · show (a.put (dstAt ops j) v).tmps.getD 35 undef = _
    rw [hne 35 (by rcases hcj with rfl | rfl | rfl | rfl | rfl | rfl | rfl | rfl | rfl | rfl | rfl <;> first | decide | exact absurd rfl hij)]
    exact h
  · show (a.put (dstAt ops j) v).tmps.getD 36 undef = _
    rw [hne 36 (by rcases hcj with rfl | rfl | rfl | rfl | rfl | rfl | rfl | rfl | rfl | rfl | rfl <;> first | decide | exact absurd rfl hij)]
    exact h
  · show (a.put (dstAt ops j) v).tmps.getD 37 undef = _
    rw [hne 37 (by rcases hcj with rfl | rfl | rfl | rfl | rfl | rfl | rfl | rfl | rfl | rfl | rfl <;> first | decide | exact absurd rfl hij)]
    exact h
  · show (a.put (dstAt ops j) v).tmps.getD 31 undef = _
    rw [hne 31 (by rcases hcj with rfl | rfl | rfl | rfl | rfl | rfl | rfl | rfl | rfl | rfl | rfl <;> first | decide | exact absurd rfl hij)]
    exact h
  · show (a.put (dstAt ops j) v).tmps.getD 38 undef = _
    rw [hne 38 (by rcases hcj with rfl | rfl | rfl | rfl | rfl | rfl | rfl | rfl | rfl | rfl | rfl <;> first | decide | exact absurd rfl hij)]
    exact h
  · show (a.put (dstAt ops j) v).tmps.getD 39 undef = _
    rw [hne 39 (by rcases hcj with rfl | rfl | rfl | rfl | rfl | rfl | rfl | rfl | rfl | rfl | rfl <;> first | decide | exact absurd rfl hij)]
    exact h
  · obtain ⟨b, h1, h2, h3⟩ := h
    have e12 := hne 12 (by rcases hcj with rfl | rfl | rfl | rfl | rfl | rfl | rfl | rfl | rfl | rfl | rfl <;> first | decide | exact absurd rfl hij)
    by_cases h10 : j = 10
    · rw [MLat, if_pos h10] at hm
      obtain ⟨-, b2, g1, g2, g3⟩ := hm
      exact ⟨b2, by rw [e12]; exact g1, g2, g3⟩
    · rw [MLat, if_neg h10] at hm
      obtain ⟨v0, v1, v2, v3, v4, v5, v6, h3⟩ := h3
      exact ⟨b, by rw [e12]; exact h1, h2, v0, v1, v2, v3, v4, v5, v6, hm.1.heap h3 trivial⟩
  · obtain ⟨b, h1, h2, h3⟩ := h
    have h9' : j ≠ 9 := fun e => hdep (e ▸ h9)
    have e12 := hne 12 (by rcases hcj with rfl | rfl | rfl | rfl | rfl | rfl | rfl | rfl | rfl | rfl | rfl <;> first | decide | exact absurd rfl h9')
    rw [MLat, if_neg (Ne.symm hij)] at hm
    exact ⟨b, by rw [e12]; exact h1, h2, hm.1.heap h3 trivial⟩

set_option maxRecDepth 100000 in
set_option maxHeartbeats 12800000 in
theorem latest_any (a0 : Option Addr) (l0 c0 : Nat) (a1 : Option Addr) (l1 c1 : Nat) (a2 : Option Addr) (l2 c2 : Nat) (a3 : Option Addr) (l3 c3 : Nat) (a4 : Option Addr) (l4 c4 : Nat) (s : Set7) (al : Option Addr) (ll cl : Nat) (xs : List Rev) (ts : List Raw) (q : Pair2) (tm : Int) (w : World) (his : SetIs (fun _ => True) w a0 l0 a1 l1 a2 l2 a3 l3 a4 l4 s) (hsx : Sl RRev 7 (fun _ => True) w al ll xs) (hst : Sl RRaw 7 (fun _ => True) w al ll ts)
    (hans : ∀ y ∈ ts, Sl RAns 4 (fun _ => True) w y.2.1 y.1.answers.length y.1.answers) (hl : ll ≤ 1000000) (hlc : ll ≤ cl) (hg : Glob w) :
    Calls Tryz.prog 19 #[.agg #[.slice a0 l0 c0, .slice a1 l1 c1, .slice a2 l2 c2, .slice a3 l3 c3, .slice a4 l4 c4, .int .i64 s.due, .int .i64 s.reply], .slice al ll cl, .agg #[.string q.paper, .string q.person], .int .i64 tm] w fun e w' => LatV (latE s xs q tm) (lastO ts (q.paper, q.person) tm false) e w' ∧ All w w' := by
  have hk1 : All w (((w.alloc (.cells #[.slice a0 l0 c0, .slice a1 l1 c1, .slice a2 l2 c2, .slice a3 l3 c3, .slice a4 l4 c4, .int .i64 s.due, .int .i64 s.reply] 31)).alloc (.cells #[.string q.paper, .string q.person] 38)).alloc (.cells #[.int .i64 0, .int .i64 0, .string ⟨#[]⟩, .string ⟨#[]⟩, .string ⟨#[]⟩, .bool false, .slice none 0 0] 45)) := ((Kept.alloc _ _ _).then_alloc _).then_alloc _
  obtain ⟨bb, hbb⟩ : ∃ k, k = w.heap.size := ⟨_, rfl⟩
  obtain ⟨pb, hpb⟩ : ∃ k, k = w.heap.size + 1 := ⟨_, rfl⟩
  obtain ⟨rb, hrb⟩ : ∃ k, k = w.heap.size + 2 := ⟨_, rfl⟩
  have bB : (((w.alloc (.cells #[.slice a0 l0 c0, .slice a1 l1 c1, .slice a2 l2 c2, .slice a3 l3 c3, .slice a4 l4 c4, .int .i64 s.due, .int .i64 s.reply] 31)).alloc (.cells #[.string q.paper, .string q.person] 38)).alloc (.cells #[.int .i64 0, .int .i64 0, .string ⟨#[]⟩, .string ⟨#[]⟩, .string ⟨#[]⟩, .bool false, .slice none 0 0] 45)).heap[bb]? = some (.cells #[.slice a0 l0 c0, .slice a1 l1 c1, .slice a2 l2 c2, .slice a3 l3 c3, .slice a4 l4 c4, .int .i64 s.due, .int .i64 s.reply] 31 (0, 0)) := heap_old _ (heap_old _ (heap_at w (.cells #[.slice a0 l0 c0, .slice a1 l1 c1, .slice a2 l2 c2, .slice a3 l3 c3, .slice a4 l4 c4, .int .i64 s.due, .int .i64 s.reply] 31) bb (by simp [hbb])))
  have bP : (((w.alloc (.cells #[.slice a0 l0 c0, .slice a1 l1 c1, .slice a2 l2 c2, .slice a3 l3 c3, .slice a4 l4 c4, .int .i64 s.due, .int .i64 s.reply] 31)).alloc (.cells #[.string q.paper, .string q.person] 38)).alloc (.cells #[.int .i64 0, .int .i64 0, .string ⟨#[]⟩, .string ⟨#[]⟩, .string ⟨#[]⟩, .bool false, .slice none 0 0] 45)).heap[pb]? = some (.cells #[.string q.paper, .string q.person] 38 (0, 0)) := heap_old _ (heap_at _ (.cells #[.string q.paper, .string q.person] 38) pb (by simp [hpb]))
  have bR : (((w.alloc (.cells #[.slice a0 l0 c0, .slice a1 l1 c1, .slice a2 l2 c2, .slice a3 l3 c3, .slice a4 l4 c4, .int .i64 s.due, .int .i64 s.reply] 31)).alloc (.cells #[.string q.paper, .string q.person] 38)).alloc (.cells #[.int .i64 0, .int .i64 0, .string ⟨#[]⟩, .string ⟨#[]⟩, .string ⟨#[]⟩, .bool false, .slice none 0 0] 45)).heap[rb]? = some (.cells #[.int .i64 0, .int .i64 0, .string ⟨#[]⟩, .string ⟨#[]⟩, .string ⟨#[]⟩, .bool false, .slice none 0 0] 45 (0, 0)) := heap_at _ (.cells #[.int .i64 0, .int .i64 0, .string ⟨#[]⟩, .string ⟨#[]⟩, .string ⟨#[]⟩, .bool false, .slice none 0 0] 45) rb (by simp [hrb])
  have HBB := Lib.hid hbb
  have HPB := Lib.hid (show pb = bb + 1 by omega)
  have HRB := Lib.hid (show rb = pb + 1 by omega)
  have hord : w.heap.size ≤ bb ∧ bb < pb ∧ pb < rb := by omega
  have HBL := Lib.hid (fun (wx : World) (k : All (((w.alloc (.cells #[.slice a0 l0 c0, .slice a1 l1 c1, .slice a2 l2 c2, .slice a3 l3 c3, .slice a4 l4 c4, .int .i64 s.due, .int .i64 s.reply] 31)).alloc (.cells #[.string q.paper, .string q.person] 38)).alloc (.cells #[.int .i64 0, .int .i64 0, .string ⟨#[]⟩, .string ⟨#[]⟩, .string ⟨#[]⟩, .bool false, .slice none 0 0] 45)) wx) => (⟨k.heap bB trivial, k.heap bP trivial, k.heap bR trivial⟩ : wx.heap[bb]? = _ ∧ wx.heap[pb]? = _ ∧ wx.heap[rb]? = _))
  have HCK := Lib.hid (check_any a0 l0 c0 a1 l1 c1 a2 l2 c2 a3 l3 c3 a4 l4 c4 s al ll cl xs _ (his.keep hk1) (hsx.keep RRev.ok hk1) hl hlc (hg.keep hk1))
  have HPS := Lib.hid (fun (wx : World) (k : All (((w.alloc (.cells #[.slice a0 l0 c0, .slice a1 l1 c1, .slice a2 l2 c2, .slice a3 l3 c3, .slice a4 l4 c4, .int .i64 s.due, .int .i64 s.reply] 31)).alloc (.cells #[.string q.paper, .string q.person] 38)).alloc (.cells #[.int .i64 0, .int .i64 0, .string ⟨#[]⟩, .string ⟨#[]⟩, .string ⟨#[]⟩, .bool false, .slice none 0 0] 45)) wx) (h : s.pairs.Pairwise ltPP) => isInR_any a2 l2 c2 s.pairs q wx (his.pairs.keep RPair.ok (hk1.trans k)) his.n2 h)
  have HST := Lib.hid (fun (wx : World) (k : All (((w.alloc (.cells #[.slice a0 l0 c0, .slice a1 l1 c1, .slice a2 l2 c2, .slice a3 l3 c3, .slice a4 l4 c4, .int .i64 s.due, .int .i64 s.reply] 31)).alloc (.cells #[.string q.paper, .string q.person] 38)).alloc (.cells #[.int .i64 0, .int .i64 0, .string ⟨#[]⟩, .string ⟨#[]⟩, .string ⟨#[]⟩, .bool false, .slice none 0 0] 45)) wx) => hst.keep RRaw.ok (hk1.trans k))
  have HANS := Lib.hid (fun (wx : World) (k : All (((w.alloc (.cells #[.slice a0 l0 c0, .slice a1 l1 c1, .slice a2 l2 c2, .slice a3 l3 c3, .slice a4 l4 c4, .int .i64 s.due, .int .i64 s.reply] 31)).alloc (.cells #[.string q.paper, .string q.person] 38)).alloc (.cells #[.int .i64 0, .int .i64 0, .string ⟨#[]⟩, .string ⟨#[]⟩, .string ⟨#[]⟩, .bool false, .slice none 0 0] 45)) wx) (y : Raw) (hy : y ∈ ts) => (hans y hy).keep RAns.ok (hk1.trans k))
  have HSM := Lib.hid (raws_small hst)
  have HTL := Lib.hid hst.len
  have HQZ := Lib.hid (show okK (q.paper, q.person) from ⟨q.h1, q.h2⟩)
  have HK1 := Lib.hid hk1
  have HRISE := Lib.hid (fun (h : revsF s xs = 0) => (setupF_rises (s := s) (by
    apply Classical.byContradiction
    intro h0
    rw [revsF_setup h0] at h
    exact h0 h)).2.2.1)
  obtain ⟨er, her⟩ : ∃ z, z = latE s xs q tm := ⟨_, rfl⟩
  have HER := Lib.hid her
  obtain ⟨ef, hef⟩ : ∃ z, z = revsF s xs := ⟨_, rfl⟩
  have HEF := Lib.hid hef
  rw [← her]
  have e0 := cell_at (i := 0) bB rfl
  have e1 := cell_at (i := 1) bB rfl
  have e2 := cell_at (i := 2) bB rfl
  have e3 := cell_at (i := 3) bB rfl
  have e4 := cell_at (i := 4) bB rfl
  have e5 := cell_at (i := 5) bB rfl
  have e6 := cell_at (i := 6) bB rfl
  clear her hef hbb hpb hrb bB bP bR his hsx hst hans hg hk1
  go_enter Tryz.func19, Tryz.ntmps19
  go_upto_region 1 with fail
  simp only [← HBB.out]
  simp only [← HPB.out]
  simp only [← HRB.out]
  generalize (((w.alloc (.cells #[.slice a0 l0 c0, .slice a1 l1 c1, .slice a2 l2 c2, .slice a3 l3 c3, .slice a4 l4 c4, .int .i64 s.due, .int .i64 s.reply] 31)).alloc (.cells #[.string q.paper, .string q.person] 38)).alloc (.cells #[.int .i64 0, .int .i64 0, .string ⟨#[]⟩, .string ⟨#[]⟩, .string ⟨#[]⟩, .bool false, .slice none 0 0] 45)) = w1 at *
  go_wp2_with fail
  refine HCK.out.mono ?_
  rintro e w2 ⟨rfl, hw2⟩
  rw [← HEF.out]
  obtain ⟨bB, bP, bR⟩ := HBL.out _ hw2
  clear e0 e1 e2 e3 e4 e5 e6
  by_cases h0 : ef = 0
  case neg =>
    have hd : (ef != 0) = true := by simpa using h0
    have HE := Lib.hid (show er = ef from by rw [HER.out, latE_1 (by rw [← HEF.out]; exact h0), HEF.out])
    have H0 := Lib.hid h0
    have hR9 := bR
    clear h0 bB bP bR
    have r0 := cell_at (i := 0) hR9 rfl
    have r1 := cell_at (i := 1) hR9 rfl
    have r2 := cell_at (i := 2) hR9 rfl
    have r3 := cell_at (i := 3) hR9 rfl
    have r4 := cell_at (i := 4) hR9 rfl
    have r5 := cell_at (i := 5) hR9 rfl
    have r6 := cell_at (i := 6) hR9 rfl
    have z0 := frozen_at (i := 0) hR9
    have z1 := frozen_at (i := 1) hR9
    have z2 := frozen_at (i := 2) hR9
    have z3 := frozen_at (i := 3) hR9
    have z4 := frozen_at (i := 4) hR9
    have z5 := frozen_at (i := 5) hR9
    have z6 := frozen_at (i := 6) hR9
    have j0 := heap_setCell_at w2 rb 0 (.int .i64 0) _ _ _ hR9
    have j1 := heap_setCell_at (w2.setCell ⟨rb, 0, none⟩ (.int .i64 0)) rb 1 (.int .i64 0) _ _ _ j0
    have j2 := heap_setCell_at ((w2.setCell ⟨rb, 0, none⟩ (.int .i64 0)).setCell ⟨rb, 1, none⟩ (.int .i64 0)) rb 2 (.string ⟨#[]⟩) _ _ _ j1
    have j3 := heap_setCell_at (((w2.setCell ⟨rb, 0, none⟩ (.int .i64 0)).setCell ⟨rb, 1, none⟩ (.int .i64 0)).setCell ⟨rb, 2, none⟩ (.string ⟨#[]⟩)) rb 3 (.string ⟨#[]⟩) _ _ _ j2
    have j4 := heap_setCell_at ((((w2.setCell ⟨rb, 0, none⟩ (.int .i64 0)).setCell ⟨rb, 1, none⟩ (.int .i64 0)).setCell ⟨rb, 2, none⟩ (.string ⟨#[]⟩)).setCell ⟨rb, 3, none⟩ (.string ⟨#[]⟩)) rb 4 (.string ⟨#[]⟩) _ _ _ j3
    have j5 := heap_setCell_at (((((w2.setCell ⟨rb, 0, none⟩ (.int .i64 0)).setCell ⟨rb, 1, none⟩ (.int .i64 0)).setCell ⟨rb, 2, none⟩ (.string ⟨#[]⟩)).setCell ⟨rb, 3, none⟩ (.string ⟨#[]⟩)).setCell ⟨rb, 4, none⟩ (.string ⟨#[]⟩)) rb 5 (.bool false) _ _ _ j4
    have j6 := heap_setCell_at ((((((w2.setCell ⟨rb, 0, none⟩ (.int .i64 0)).setCell ⟨rb, 1, none⟩ (.int .i64 0)).setCell ⟨rb, 2, none⟩ (.string ⟨#[]⟩)).setCell ⟨rb, 3, none⟩ (.string ⟨#[]⟩)).setCell ⟨rb, 4, none⟩ (.string ⟨#[]⟩)).setCell ⟨rb, 5, none⟩ (.bool false)) rb 6 (.slice none 0 0) _ _ _ j5
    have hr7 : (((((((w2.setCell ⟨rb, 0, none⟩ (.int .i64 0)).setCell ⟨rb, 1, none⟩ (.int .i64 0)).setCell ⟨rb, 2, none⟩ (.string ⟨#[]⟩)).setCell ⟨rb, 3, none⟩ (.string ⟨#[]⟩)).setCell ⟨rb, 4, none⟩ (.string ⟨#[]⟩)).setCell ⟨rb, 5, none⟩ (.bool false)).setCell ⟨rb, 6, none⟩ (.slice none 0 0)).heap[rb]? = some (.cells #[.int .i64 0, .int .i64 0, .string ⟨#[]⟩, .string ⟨#[]⟩, .string ⟨#[]⟩, .bool false, .slice none 0 0] 45 (0, 0)) := by simpa using j6
    have hkr : Kept (fun j => j ≠ rb) w2 (((((((w2.setCell ⟨rb, 0, none⟩ (.int .i64 0)).setCell ⟨rb, 1, none⟩ (.int .i64 0)).setCell ⟨rb, 2, none⟩ (.string ⟨#[]⟩)).setCell ⟨rb, 3, none⟩ (.string ⟨#[]⟩)).setCell ⟨rb, 4, none⟩ (.string ⟨#[]⟩)).setCell ⟨rb, 5, none⟩ (.bool false)).setCell ⟨rb, 6, none⟩ (.slice none 0 0)) := ((((((((Kept.refl (fun j => j ≠ rb) w2).then_setCell _ _ (fun h => h rfl)).then_setCell _ _ (fun h => h rfl)).then_setCell _ _ (fun h => h rfl)).then_setCell _ _ (fun h => h rfl)).then_setCell _ _ (fun h => h rfl)).then_setCell _ _ (fun h => h rfl)).then_setCell _ _ (fun h => h rfl))
    have hend := Lib.hid ((HK1.out.trans hw2).trans2 hkr (fun i hi _ e => by omega))
    have y0 := cell_at (i := 0) hr7 rfl
    have y1 := cell_at (i := 1) hr7 rfl
    have y2 := cell_at (i := 2) hr7 rfl
    have y3 := cell_at (i := 3) hr7 rfl
    have y4 := cell_at (i := 4) hr7 rfl
    have y5 := cell_at (i := 5) hr7 rfl
    have y6 := cell_at (i := 6) hr7 rfl
    clear hR9 hkr hr7 j0 j1 j2 j3 j4 j5 j6
    go_wp2_with fail
    refine bodyPost_ret (v := .tuple #[.agg #[.int .i64 0, .int .i64 0, .string ⟨#[]⟩, .string ⟨#[]⟩, .string ⟨#[]⟩, .bool false, .slice none 0 0], .bool false, .int .i64 ef]) ?_ rfl ⟨?_, hend.out⟩
    · simp [results, Tryz.results19, go_sem, y0, y1, y2, y3, y4, y5, y6]
    · rw [HE.out]; exact LatV.bad H0.out
  case pos =>
    subst h0
    have hd : ((0 : Int) != 0) = false := rfl
    have hrise := HRISE.out HEF.out.symm
    have e0 := cell_at (i := 0) bB rfl
    have e1 := cell_at (i := 1) bB rfl
    have e2 := cell_at (i := 2) bB rfl
    have e3 := cell_at (i := 3) bB rfl
    have e4 := cell_at (i := 4) bB rfl
    have e5 := cell_at (i := 5) bB rfl
    have e6 := cell_at (i := 6) bB rfl
    have d0 := cell_at (i := 0) bP rfl
    have d1 := cell_at (i := 1) bP rfl
    clear bB bP
    go_wp2_with fail
    refine (HPS.out _ hw2 hrise).mono ?_
    rintro e w3 ⟨rfl, hw3⟩
    have hw13 := hw2.trans hw3
    obtain ⟨bB3, bP3, bR3⟩ := HBL.out _ hw13
    clear e0 e1 e2 e3 e4 e5 e6 d0 d1 bR
    cases hin : inP s.pairs q.paper q.person with
    | false =>
      have HE := Lib.hid (show er = 8 from by rw [HER.out, latE_2 HEF.out.symm hin])
      have hR9 := bR3
      clear bB3 bP3 bR3
      have r0 := cell_at (i := 0) hR9 rfl
      have r1 := cell_at (i := 1) hR9 rfl
      have r2 := cell_at (i := 2) hR9 rfl
      have r3 := cell_at (i := 3) hR9 rfl
      have r4 := cell_at (i := 4) hR9 rfl
      have r5 := cell_at (i := 5) hR9 rfl
      have r6 := cell_at (i := 6) hR9 rfl
      have z0 := frozen_at (i := 0) hR9
      have z1 := frozen_at (i := 1) hR9
      have z2 := frozen_at (i := 2) hR9
      have z3 := frozen_at (i := 3) hR9
      have z4 := frozen_at (i := 4) hR9
      have z5 := frozen_at (i := 5) hR9
      have z6 := frozen_at (i := 6) hR9
      have j0 := heap_setCell_at w3 rb 0 (.int .i64 0) _ _ _ hR9
      have j1 := heap_setCell_at (w3.setCell ⟨rb, 0, none⟩ (.int .i64 0)) rb 1 (.int .i64 0) _ _ _ j0
      have j2 := heap_setCell_at ((w3.setCell ⟨rb, 0, none⟩ (.int .i64 0)).setCell ⟨rb, 1, none⟩ (.int .i64 0)) rb 2 (.string ⟨#[]⟩) _ _ _ j1
      have j3 := heap_setCell_at (((w3.setCell ⟨rb, 0, none⟩ (.int .i64 0)).setCell ⟨rb, 1, none⟩ (.int .i64 0)).setCell ⟨rb, 2, none⟩ (.string ⟨#[]⟩)) rb 3 (.string ⟨#[]⟩) _ _ _ j2
      have j4 := heap_setCell_at ((((w3.setCell ⟨rb, 0, none⟩ (.int .i64 0)).setCell ⟨rb, 1, none⟩ (.int .i64 0)).setCell ⟨rb, 2, none⟩ (.string ⟨#[]⟩)).setCell ⟨rb, 3, none⟩ (.string ⟨#[]⟩)) rb 4 (.string ⟨#[]⟩) _ _ _ j3
      have j5 := heap_setCell_at (((((w3.setCell ⟨rb, 0, none⟩ (.int .i64 0)).setCell ⟨rb, 1, none⟩ (.int .i64 0)).setCell ⟨rb, 2, none⟩ (.string ⟨#[]⟩)).setCell ⟨rb, 3, none⟩ (.string ⟨#[]⟩)).setCell ⟨rb, 4, none⟩ (.string ⟨#[]⟩)) rb 5 (.bool false) _ _ _ j4
      have j6 := heap_setCell_at ((((((w3.setCell ⟨rb, 0, none⟩ (.int .i64 0)).setCell ⟨rb, 1, none⟩ (.int .i64 0)).setCell ⟨rb, 2, none⟩ (.string ⟨#[]⟩)).setCell ⟨rb, 3, none⟩ (.string ⟨#[]⟩)).setCell ⟨rb, 4, none⟩ (.string ⟨#[]⟩)).setCell ⟨rb, 5, none⟩ (.bool false)) rb 6 (.slice none 0 0) _ _ _ j5
      have hr7 : (((((((w3.setCell ⟨rb, 0, none⟩ (.int .i64 0)).setCell ⟨rb, 1, none⟩ (.int .i64 0)).setCell ⟨rb, 2, none⟩ (.string ⟨#[]⟩)).setCell ⟨rb, 3, none⟩ (.string ⟨#[]⟩)).setCell ⟨rb, 4, none⟩ (.string ⟨#[]⟩)).setCell ⟨rb, 5, none⟩ (.bool false)).setCell ⟨rb, 6, none⟩ (.slice none 0 0)).heap[rb]? = some (.cells #[.int .i64 0, .int .i64 0, .string ⟨#[]⟩, .string ⟨#[]⟩, .string ⟨#[]⟩, .bool false, .slice none 0 0] 45 (0, 0)) := by simpa using j6
      have hkr : Kept (fun j => j ≠ rb) w3 (((((((w3.setCell ⟨rb, 0, none⟩ (.int .i64 0)).setCell ⟨rb, 1, none⟩ (.int .i64 0)).setCell ⟨rb, 2, none⟩ (.string ⟨#[]⟩)).setCell ⟨rb, 3, none⟩ (.string ⟨#[]⟩)).setCell ⟨rb, 4, none⟩ (.string ⟨#[]⟩)).setCell ⟨rb, 5, none⟩ (.bool false)).setCell ⟨rb, 6, none⟩ (.slice none 0 0)) := ((((((((Kept.refl (fun j => j ≠ rb) w3).then_setCell _ _ (fun h => h rfl)).then_setCell _ _ (fun h => h rfl)).then_setCell _ _ (fun h => h rfl)).then_setCell _ _ (fun h => h rfl)).then_setCell _ _ (fun h => h rfl)).then_setCell _ _ (fun h => h rfl)).then_setCell _ _ (fun h => h rfl))
      have hend := Lib.hid ((HK1.out.trans hw13).trans2 hkr (fun i hi _ e => by omega))
      have y0 := cell_at (i := 0) hr7 rfl
      have y1 := cell_at (i := 1) hr7 rfl
      have y2 := cell_at (i := 2) hr7 rfl
      have y3 := cell_at (i := 3) hr7 rfl
      have y4 := cell_at (i := 4) hr7 rfl
      have y5 := cell_at (i := 5) hr7 rfl
      have y6 := cell_at (i := 6) hr7 rfl
      clear hR9 hkr hr7 j0 j1 j2 j3 j4 j5 j6
      go_wp2_with fail
      refine bodyPost_ret (v := .tuple #[.agg #[.int .i64 0, .int .i64 0, .string ⟨#[]⟩, .string ⟨#[]⟩, .string ⟨#[]⟩, .bool false, .slice none 0 0], .bool false, .int .i64 8]) ?_ rfl ⟨?_, hend.out⟩
      · simp [results, Tryz.results19, go_sem, y0, y1, y2, y3, y4, y5, y6]
      · rw [HE.out]; exact LatV.bad (by decide)
    | true =>
      have HE := Lib.hid (show er = _ from by rw [HER.out, latE_3 HEF.out.symm hin])
      go_wp2_with fail
      refine (isMoment_any tm _).mono ?_
      rintro e w' ⟨rfl, rfl⟩
      by_cases hm : 0 ≤ tm ∧ tm < 5761440
      case neg =>
        rw [decide_eq_false hm]
        have HE2 := Lib.hid (show er = 1 from by rw [HE.out, if_neg hm])
        have hR9 := bR3
        clear bB3 bP3 bR3 hm
        have r0 := cell_at (i := 0) hR9 rfl
        have r1 := cell_at (i := 1) hR9 rfl
        have r2 := cell_at (i := 2) hR9 rfl
        have r3 := cell_at (i := 3) hR9 rfl
        have r4 := cell_at (i := 4) hR9 rfl
        have r5 := cell_at (i := 5) hR9 rfl
        have r6 := cell_at (i := 6) hR9 rfl
        have z0 := frozen_at (i := 0) hR9
        have z1 := frozen_at (i := 1) hR9
        have z2 := frozen_at (i := 2) hR9
        have z3 := frozen_at (i := 3) hR9
        have z4 := frozen_at (i := 4) hR9
        have z5 := frozen_at (i := 5) hR9
        have z6 := frozen_at (i := 6) hR9
        have j0 := heap_setCell_at w3 rb 0 (.int .i64 0) _ _ _ hR9
        have j1 := heap_setCell_at (w3.setCell ⟨rb, 0, none⟩ (.int .i64 0)) rb 1 (.int .i64 0) _ _ _ j0
        have j2 := heap_setCell_at ((w3.setCell ⟨rb, 0, none⟩ (.int .i64 0)).setCell ⟨rb, 1, none⟩ (.int .i64 0)) rb 2 (.string ⟨#[]⟩) _ _ _ j1
        have j3 := heap_setCell_at (((w3.setCell ⟨rb, 0, none⟩ (.int .i64 0)).setCell ⟨rb, 1, none⟩ (.int .i64 0)).setCell ⟨rb, 2, none⟩ (.string ⟨#[]⟩)) rb 3 (.string ⟨#[]⟩) _ _ _ j2
        have j4 := heap_setCell_at ((((w3.setCell ⟨rb, 0, none⟩ (.int .i64 0)).setCell ⟨rb, 1, none⟩ (.int .i64 0)).setCell ⟨rb, 2, none⟩ (.string ⟨#[]⟩)).setCell ⟨rb, 3, none⟩ (.string ⟨#[]⟩)) rb 4 (.string ⟨#[]⟩) _ _ _ j3
        have j5 := heap_setCell_at (((((w3.setCell ⟨rb, 0, none⟩ (.int .i64 0)).setCell ⟨rb, 1, none⟩ (.int .i64 0)).setCell ⟨rb, 2, none⟩ (.string ⟨#[]⟩)).setCell ⟨rb, 3, none⟩ (.string ⟨#[]⟩)).setCell ⟨rb, 4, none⟩ (.string ⟨#[]⟩)) rb 5 (.bool false) _ _ _ j4
        have j6 := heap_setCell_at ((((((w3.setCell ⟨rb, 0, none⟩ (.int .i64 0)).setCell ⟨rb, 1, none⟩ (.int .i64 0)).setCell ⟨rb, 2, none⟩ (.string ⟨#[]⟩)).setCell ⟨rb, 3, none⟩ (.string ⟨#[]⟩)).setCell ⟨rb, 4, none⟩ (.string ⟨#[]⟩)).setCell ⟨rb, 5, none⟩ (.bool false)) rb 6 (.slice none 0 0) _ _ _ j5
        have hr7 : (((((((w3.setCell ⟨rb, 0, none⟩ (.int .i64 0)).setCell ⟨rb, 1, none⟩ (.int .i64 0)).setCell ⟨rb, 2, none⟩ (.string ⟨#[]⟩)).setCell ⟨rb, 3, none⟩ (.string ⟨#[]⟩)).setCell ⟨rb, 4, none⟩ (.string ⟨#[]⟩)).setCell ⟨rb, 5, none⟩ (.bool false)).setCell ⟨rb, 6, none⟩ (.slice none 0 0)).heap[rb]? = some (.cells #[.int .i64 0, .int .i64 0, .string ⟨#[]⟩, .string ⟨#[]⟩, .string ⟨#[]⟩, .bool false, .slice none 0 0] 45 (0, 0)) := by simpa using j6
        have hkr : Kept (fun j => j ≠ rb) w3 (((((((w3.setCell ⟨rb, 0, none⟩ (.int .i64 0)).setCell ⟨rb, 1, none⟩ (.int .i64 0)).setCell ⟨rb, 2, none⟩ (.string ⟨#[]⟩)).setCell ⟨rb, 3, none⟩ (.string ⟨#[]⟩)).setCell ⟨rb, 4, none⟩ (.string ⟨#[]⟩)).setCell ⟨rb, 5, none⟩ (.bool false)).setCell ⟨rb, 6, none⟩ (.slice none 0 0)) := ((((((((Kept.refl (fun j => j ≠ rb) w3).then_setCell _ _ (fun h => h rfl)).then_setCell _ _ (fun h => h rfl)).then_setCell _ _ (fun h => h rfl)).then_setCell _ _ (fun h => h rfl)).then_setCell _ _ (fun h => h rfl)).then_setCell _ _ (fun h => h rfl)).then_setCell _ _ (fun h => h rfl))
        have hend := Lib.hid ((HK1.out.trans hw13).trans2 hkr (fun i hi _ e => by omega))
        have y0 := cell_at (i := 0) hr7 rfl
        have y1 := cell_at (i := 1) hr7 rfl
        have y2 := cell_at (i := 2) hr7 rfl
        have y3 := cell_at (i := 3) hr7 rfl
        have y4 := cell_at (i := 4) hr7 rfl
        have y5 := cell_at (i := 5) hr7 rfl
        have y6 := cell_at (i := 6) hr7 rfl
        clear hR9 hkr hr7 j0 j1 j2 j3 j4 j5 j6
        go_wp2_with fail
        refine bodyPost_ret (v := .tuple #[.agg #[.int .i64 0, .int .i64 0, .string ⟨#[]⟩, .string ⟨#[]⟩, .string ⟨#[]⟩, .bool false, .slice none 0 0], .bool false, .int .i64 1]) ?_ rfl ⟨?_, hend.out⟩
        · simp [results, Tryz.results19, go_sem, y0, y1, y2, y3, y4, y5, y6]
        · rw [HE2.out]; exact LatV.bad (by decide)
      case pos =>
        rw [decide_eq_true hm]
        have HE2 := Lib.hid (show er = 0 from by rw [HE.out, if_pos hm])
        clear hm
        obtain ⟨o, ho⟩ : ∃ o, o = lastO ts (q.paper, q.person) tm false := ⟨_, rfl⟩
        have HOE := Lib.hid ho
        obtain ⟨is, his⟩ : ∃ i, i = o.isSome := ⟨_, rfl⟩
        have HIS := Lib.hid his
        obtain ⟨⟨x, aa, ac⟩, hy⟩ : ∃ y, y = o.getD raw0 := ⟨_, rfl⟩
        have HYY := Lib.hid hy
        have HLA := Lib.hid (fun (kb : Nat) (wx : World) (hb : BookIs wx kb #[.slice a0 l0 c0, .slice a1 l1 c1, .slice a2 l2 c2, .slice a3 l3 c3, .slice a4 l4 c4, .int .i64 s.due, .int .i64 s.reply] ts) => (show Calls Tryz.prog 59 #[.pointer (some ⟨kb, 0, none⟩), .agg #[.string q.paper, .string q.person], .int .i64 tm, .bool false] wx fun e w' => e = .returned (.tuple #[.agg #[.int .i64 x.no, .int .i64 x.tm, .string x.paper, .string x.person, .string x.by_, .bool x.done, .slice aa x.answers.length ac], .bool is]) ∧ All wx w' from by
          have h := last_any kb _ rfl ts (by have := HTL.out; omega) (q.paper, q.person) HQZ.out tm false wx hb
          rw [← ho, ← hy, ← his] at h
          exact h))
        have hxa : Sl RAns 4 (fun _ => True) w3 aa x.answers.length x.answers ∧ RevSmall x := by
          cases hoo : o with
          | none =>
            rw [hoo] at hy
            have e1 : (x, aa, ac) = raw0 := hy
            injection e1 with e1 e2
            subst e1
            injection e2 with e2 e3
            subst e2
            exact ⟨Sl.nil _ _ _ _ _, by unfold RevSmall; decide⟩
          | some y =>
            rw [hoo] at hy
            have e1 : (x, aa, ac) = y := hy
            have hmem := lastO_mem (HOE.out.symm.trans hoo)
            rw [← e1] at hmem
            exact ⟨HANS.out _ hw13 _ hmem, HSM.out _ hmem⟩
        obtain ⟨hxa, hxs⟩ := hxa
        have HXA := Lib.hid hxa
        have HXS := Lib.hid hxs
        have HBO := Lib.hid (fun (wx : World) (k : All w3 wx) => bookOf_any a0 l0 c0 a1 l1 c1 a2 l2 c2 a3 l3 c3 a4 l4 c4 s al ll cl ts wx (HST.out wx (hw13.trans k)) hl)
        have HBL3 := Lib.hid (fun (wx : World) (k : All w3 wx) => HBL.out wx (hw13.trans k))
        clear ho his hy hxa hxs bB3 bP3 bR3 hin
        go_upto_region 8 with fail
        refine wp_region_genL 11 (by kernel_rfl) (by kernel_rfl) (fun L a' wx => GLat w3 L a' wx ∧ a'.tmps.size = 43) (DLat (.agg #[.slice a0 l0 c0, .slice a1 l1 c1, .slice a2 l2 c2, .slice a3 l3 c3, .slice a4 l4 c4, .int .i64 s.due, .int .i64 s.reply]) (.slice al ll cl) (.agg #[.string q.paper, .string q.person]) (.int .i64 tm) (Value.tuple #[.agg #[.int .i64 x.no, .int .i64 x.tm, .string x.paper, .string x.person, .string x.by_, .bool x.done, .slice aa x.answers.length ac], .bool is]) (.agg #[.int .i64 x.no, .int .i64 x.tm, .string x.paper, .string x.person, .string x.by_, .bool x.done, .slice aa x.answers.length ac]) (.bool is) #[.slice a0 l0 c0, .slice a1 l1 c1, .slice a2 l2 c2, .slice a3 l3 c3, .slice a4 l4 c4, .int .i64 s.due, .int .i64 s.reply] ts w3.heap.size #[.int .i64 x.no, .int .i64 x.tm, .string x.paper, .string x.person, .string x.by_, .bool x.done, .slice aa x.answers.length ac]) (MLat (Value.tuple #[.agg #[.int .i64 x.no, .int .i64 x.tm, .string x.paper, .string x.person, .string x.by_, .bool x.done, .slice aa x.answers.length ac], .bool is]) w3.heap.size #[.int .i64 x.no, .int .i64 x.tm, .string x.paper, .string x.person, .string x.by_, .bool x.done, .slice aa x.answers.length ac])
          (fun i j _ a' wx v wy hi hj hij hdep hg hm h => DLat.keep (by intro i hi; have hci : i = 0 ∨ i = 1 ∨ i = 2 ∨ i = 3 ∨ i = 4 ∨ i = 5 ∨ i = 6 ∨ i = 7 ∨ i = 8 ∨ i = 9 ∨ i = 10 := (by omega); rcases hci with rfl | rfl | rfl | rfl | rfl | rfl | rfl | rfl | rfl | rfl | rfl <;> rfl) (by decide) i j a' wx v wy hi hj hij hdep hg.2 hm h) ⟨⟨Kept.drew _ _, fun _ => rfl⟩, rfl⟩ ?_ ?_
        · intro i o ho hi L a' wx hgl hL hdf hts hoth hdeps
          obtain ⟨⟨hg, hu⟩, hsz⟩ := hgl
          have hszx := hg.size
          have hci : i = 0 ∨ i = 1 ∨ i = 2 ∨ i = 3 ∨ i = 4 ∨ i = 5 ∨ i = 6 ∨ i = 7 ∨ i = 8 ∨ i = 9 ∨ i = 10 := by omega
          rcases hci with rfl | rfl | rfl | rfl | rfl | rfl | rfl | rfl | rfl | rfl | rfl
          · obtain rfl := Option.some.inj ho
            have e0 : a'.tmps.getD 4 undef = (Value.pointer (some ⟨bb, 0, none⟩)) := tmp_of ((hoth 4 (by decide)).trans rfl)
            obtain ⟨hbx, -, -⟩ := HBL3.out wx hg
            have g0 := cell_at (i := 0) hbx rfl
            have g1 := cell_at (i := 1) hbx rfl
            have g2 := cell_at (i := 2) hbx rfl
            have g3 := cell_at (i := 3) hbx rfl
            have g4 := cell_at (i := 4) hbx rfl
            have g5 := cell_at (i := 5) hbx rfl
            have g6 := cell_at (i := 6) hbx rfl
            clear hbx
            clear hoth hdeps hdf hts ho
            refine wp_via (fun K' hK => ?_)
            have HK := Lib.hid hK
            clear hK
            go_simp
            exact HK.out _ _ ⟨_, rfl, ⟨GLat.step ⟨hg, hu⟩ (by decide) (by decide) (Kept.refl _ _), by simp [Act.put, hsz]⟩, MLat.all (by decide) (Kept.refl _ _), put_same _ (show 32 < a'.tmps.size by omega)⟩
          · obtain rfl := Option.some.inj ho
            have e0 : a'.tmps.getD 1 undef = (Value.slice al ll cl) := tmp_of ((hoth 1 (by decide)).trans rfl)
            clear hoth hdeps hdf hts ho
            refine wp_via (fun K' hK => ?_)
            have HK := Lib.hid hK
            clear hK
            go_simp
            exact HK.out _ _ ⟨_, rfl, ⟨GLat.step ⟨hg, hu⟩ (by decide) (by decide) (Kept.refl _ _), by simp [Act.put, hsz]⟩, MLat.all (by decide) (Kept.refl _ _), put_same _ (show 33 < a'.tmps.size by omega)⟩
          · obtain rfl := Option.some.inj ho
            have e0 : a'.tmps.getD 32 undef = .agg #[.slice a0 l0 c0, .slice a1 l1 c1, .slice a2 l2 c2, .slice a3 l3 c3, .slice a4 l4 c4, .int .i64 s.due, .int .i64 s.reply] := hdeps 0 (by decide)
            have e1 : a'.tmps.getD 33 undef = .slice al ll cl := hdeps 1 (by decide)
            clear hoth hdeps hdf hts ho
            refine wp_via (fun K' hK => ?_)
            have HK := Lib.hid hK
            clear hK
            go_simp
            refine (HBO.out wx hg).mono ?_
            rintro e w4 ⟨⟨kb, rfl, hbk⟩, hw4⟩
            exact HK.out _ _ ⟨_, rfl, ⟨GLat.step ⟨hg, hu⟩ (by decide) (by decide) hw4, by simp [Act.put, hsz]⟩, MLat.all (by decide) hw4, Or.inr ⟨kb, put_same _ (show 34 < a'.tmps.size by omega), hbk⟩⟩
          · obtain rfl := Option.some.inj ho
            have e0 : a'.tmps.getD 6 undef = (Value.pointer (some ⟨pb, 0, none⟩)) := tmp_of ((hoth 6 (by decide)).trans rfl)
            obtain ⟨-, hbx, -⟩ := HBL3.out wx hg
            have g0 := cell_at (i := 0) hbx rfl
            have g1 := cell_at (i := 1) hbx rfl
            clear hbx
            clear hoth hdeps hdf hts ho
            refine wp_via (fun K' hK => ?_)
            have HK := Lib.hid hK
            clear hK
            go_simp
            exact HK.out _ _ ⟨_, rfl, ⟨GLat.step ⟨hg, hu⟩ (by decide) (by decide) (Kept.refl _ _), by simp [Act.put, hsz]⟩, MLat.all (by decide) (Kept.refl _ _), put_same _ (show 35 < a'.tmps.size by omega)⟩
          · obtain rfl := Option.some.inj ho
            have e0 : a'.tmps.getD 3 undef = (Value.int .i64 tm) := tmp_of ((hoth 3 (by decide)).trans rfl)
            clear hoth hdeps hdf hts ho
            refine wp_via (fun K' hK => ?_)
            have HK := Lib.hid hK
            clear hK
            go_simp
            exact HK.out _ _ ⟨_, rfl, ⟨GLat.step ⟨hg, hu⟩ (by decide) (by decide) (Kept.refl _ _), by simp [Act.put, hsz]⟩, MLat.all (by decide) (Kept.refl _ _), put_same _ (show 36 < a'.tmps.size by omega)⟩
          · obtain rfl := Option.some.inj ho
            have hbk0 : a'.tmps.getD 37 undef = Value.tuple #[.agg #[.int .i64 x.no, .int .i64 x.tm, .string x.paper, .string x.person, .string x.by_, .bool x.done, .slice aa x.answers.length ac], .bool is] ∨ QBook #[.slice a0 l0 c0, .slice a1 l1 c1, .slice a2 l2 c2, .slice a3 l3 c3, .slice a4 l4 c4, .int .i64 s.due, .int .i64 s.reply] ts (a'.tmps.getD 34 undef) wx := hdeps 2 (by decide)
            have e1 : a'.tmps.getD 35 undef = .agg #[.string q.paper, .string q.person] := hdeps 3 (by decide)
            have e2 : a'.tmps.getD 36 undef = .int .i64 tm := hdeps 4 (by decide)
            obtain ⟨kb, e0, hbk⟩ : QBook #[.slice a0 l0 c0, .slice a1 l1 c1, .slice a2 l2 c2, .slice a3 l3 c3, .slice a4 l4 c4, .int .i64 s.due, .int .i64 s.reply] ts (a'.tmps.getD 34 undef) wx := hbk0.resolve_left (by rw [hu hL]; simp [undef])
            clear hbk0 hu
            clear hoth hdeps hdf hts ho
            refine wp_via (fun K' hK => ?_)
            have HK := Lib.hid hK
            clear hK
            go_simp
            refine (HLA.out kb wx hbk).mono ?_
            rintro e w4 ⟨rfl, hw4⟩
            exact HK.out _ _ ⟨_, rfl, ⟨⟨hg.trans hw4, fun h => absurd h (by simp)⟩, by simp [Act.put, hsz]⟩, by rw [MLat, if_neg (by decide)]; exact ⟨hw4, fun _ => rfl⟩, put_same _ (show 37 < a'.tmps.size by omega)⟩
          · obtain rfl := Option.some.inj ho
            have e0 : a'.tmps.getD 37 undef = Value.tuple #[.agg #[.int .i64 x.no, .int .i64 x.tm, .string x.paper, .string x.person, .string x.by_, .bool x.done, .slice aa x.answers.length ac], .bool is] := hdeps 5 (by decide)
            clear hoth hdeps hdf hts ho
            refine wp_via (fun K' hK => ?_)
            have HK := Lib.hid hK
            clear hK
            go_simp
            exact HK.out _ _ ⟨_, rfl, ⟨GLat.step ⟨hg, hu⟩ (by decide) (by decide) (Kept.refl _ _), by simp [Act.put, hsz]⟩, MLat.all (by decide) (Kept.refl _ _), put_same _ (show 31 < a'.tmps.size by omega)⟩
          · obtain rfl := Option.some.inj ho
            have e0 : a'.tmps.getD 31 undef = Value.tuple #[.agg #[.int .i64 x.no, .int .i64 x.tm, .string x.paper, .string x.person, .string x.by_, .bool x.done, .slice aa x.answers.length ac], .bool is] := hdeps 6 (by decide)
            clear hoth hdeps hdf hts ho
            refine wp_via (fun K' hK => ?_)
            have HK := Lib.hid hK
            clear hK
            go_simp
            exact HK.out _ _ ⟨_, rfl, ⟨GLat.step ⟨hg, hu⟩ (by decide) (by decide) (Kept.refl _ _), by simp [Act.put, hsz]⟩, MLat.all (by decide) (Kept.refl _ _), put_same _ (show 38 < a'.tmps.size by omega)⟩
          · obtain rfl := Option.some.inj ho
            have e0 : a'.tmps.getD 31 undef = Value.tuple #[.agg #[.int .i64 x.no, .int .i64 x.tm, .string x.paper, .string x.person, .string x.by_, .bool x.done, .slice aa x.answers.length ac], .bool is] := hdeps 6 (by decide)
            clear hoth hdeps hdf hts ho
            refine wp_via (fun K' hK => ?_)
            have HK := Lib.hid hK
            clear hK
            go_simp
            exact HK.out _ _ ⟨_, rfl, ⟨GLat.step ⟨hg, hu⟩ (by decide) (by decide) (Kept.refl _ _), by simp [Act.put, hsz]⟩, MLat.all (by decide) (Kept.refl _ _), put_same _ (show 39 < a'.tmps.size by omega)⟩
          · obtain rfl := Option.some.inj ho
            clear hoth hdeps hdf hts ho
            refine wp_via (fun K' hK => ?_)
            have HK := Lib.hid hK
            clear hK
            go_simp
            exact HK.out _ _ ⟨_, rfl, ⟨GLat.step ⟨hg, hu⟩ (by decide) (by decide) (Kept.alloc _ _ _), by simp [Act.put, hsz]⟩, MLat.all (by decide) (Kept.alloc _ _ _), ⟨wx.heap.size, put_same _ (show 12 < a'.tmps.size by omega), hszx, _, _, _, _, _, _, _, heap_at _ _ _ rfl⟩⟩
          · obtain rfl := Option.some.inj ho
            obtain ⟨nb, e12, hnb, v0, v1, v2, v3, v4, v5, v6, hnx⟩ : DLat (.agg #[.slice a0 l0 c0, .slice a1 l1 c1, .slice a2 l2 c2, .slice a3 l3 c3, .slice a4 l4 c4, .int .i64 s.due, .int .i64 s.reply]) (.slice al ll cl) (.agg #[.string q.paper, .string q.person]) (.int .i64 tm) (Value.tuple #[.agg #[.int .i64 x.no, .int .i64 x.tm, .string x.paper, .string x.person, .string x.by_, .bool x.done, .slice aa x.answers.length ac], .bool is]) (.agg #[.int .i64 x.no, .int .i64 x.tm, .string x.paper, .string x.person, .string x.by_, .bool x.done, .slice aa x.answers.length ac]) (.bool is) #[.slice a0 l0 c0, .slice a1 l1 c1, .slice a2 l2 c2, .slice a3 l3 c3, .slice a4 l4 c4, .int .i64 s.due, .int .i64 s.reply] ts w3.heap.size #[.int .i64 x.no, .int .i64 x.tm, .string x.paper, .string x.person, .string x.by_, .bool x.done, .slice aa x.answers.length ac] 9 a' wx := hdeps 9 (by decide)
            have e38 : a'.tmps.getD 38 undef = .agg #[.int .i64 x.no, .int .i64 x.tm, .string x.paper, .string x.person, .string x.by_, .bool x.done, .slice aa x.answers.length ac] := hdeps 7 (by decide)
            have e37 : a'.tmps.getD 37 undef = Value.tuple #[.agg #[.int .i64 x.no, .int .i64 x.tm, .string x.paper, .string x.person, .string x.by_, .bool x.done, .slice aa x.answers.length ac], .bool is] := hdeps 5 (by decide)
            have q0 := cell_at (i := 0) hnx rfl
            have q1 := cell_at (i := 1) hnx rfl
            have q2 := cell_at (i := 2) hnx rfl
            have q3 := cell_at (i := 3) hnx rfl
            have q4 := cell_at (i := 4) hnx rfl
            have q5 := cell_at (i := 5) hnx rfl
            have q6 := cell_at (i := 6) hnx rfl
            have z0 := frozen_at (i := 0) hnx
            have z1 := frozen_at (i := 1) hnx
            have z2 := frozen_at (i := 2) hnx
            have z3 := frozen_at (i := 3) hnx
            have z4 := frozen_at (i := 4) hnx
            have z5 := frozen_at (i := 5) hnx
            have z6 := frozen_at (i := 6) hnx
            have j0 := heap_setCell_at wx nb 0 (.int .i64 x.no) _ _ _ hnx
            have j1 := heap_setCell_at (wx.setCell ⟨nb, 0, none⟩ (.int .i64 x.no)) nb 1 (.int .i64 x.tm) _ _ _ j0
            have j2 := heap_setCell_at ((wx.setCell ⟨nb, 0, none⟩ (.int .i64 x.no)).setCell ⟨nb, 1, none⟩ (.int .i64 x.tm)) nb 2 (.string x.paper) _ _ _ j1
            have j3 := heap_setCell_at (((wx.setCell ⟨nb, 0, none⟩ (.int .i64 x.no)).setCell ⟨nb, 1, none⟩ (.int .i64 x.tm)).setCell ⟨nb, 2, none⟩ (.string x.paper)) nb 3 (.string x.person) _ _ _ j2
            have j4 := heap_setCell_at ((((wx.setCell ⟨nb, 0, none⟩ (.int .i64 x.no)).setCell ⟨nb, 1, none⟩ (.int .i64 x.tm)).setCell ⟨nb, 2, none⟩ (.string x.paper)).setCell ⟨nb, 3, none⟩ (.string x.person)) nb 4 (.string x.by_) _ _ _ j3
            have j5 := heap_setCell_at (((((wx.setCell ⟨nb, 0, none⟩ (.int .i64 x.no)).setCell ⟨nb, 1, none⟩ (.int .i64 x.tm)).setCell ⟨nb, 2, none⟩ (.string x.paper)).setCell ⟨nb, 3, none⟩ (.string x.person)).setCell ⟨nb, 4, none⟩ (.string x.by_)) nb 5 (.bool x.done) _ _ _ j4
            have j6 := heap_setCell_at ((((((wx.setCell ⟨nb, 0, none⟩ (.int .i64 x.no)).setCell ⟨nb, 1, none⟩ (.int .i64 x.tm)).setCell ⟨nb, 2, none⟩ (.string x.paper)).setCell ⟨nb, 3, none⟩ (.string x.person)).setCell ⟨nb, 4, none⟩ (.string x.by_)).setCell ⟨nb, 5, none⟩ (.bool x.done)) nb 6 (.slice aa x.answers.length ac) _ _ _ j5
            have HN := Lib.hid (show (((((((wx.setCell ⟨nb, 0, none⟩ (.int .i64 x.no)).setCell ⟨nb, 1, none⟩ (.int .i64 x.tm)).setCell ⟨nb, 2, none⟩ (.string x.paper)).setCell ⟨nb, 3, none⟩ (.string x.person)).setCell ⟨nb, 4, none⟩ (.string x.by_)).setCell ⟨nb, 5, none⟩ (.bool x.done)).setCell ⟨nb, 6, none⟩ (.slice aa x.answers.length ac)).heap[nb]? = some (.cells #[.int .i64 x.no, .int .i64 x.tm, .string x.paper, .string x.person, .string x.by_, .bool x.done, .slice aa x.answers.length ac] 45 (0, 0)) from by simpa using j6)
            have HKN := Lib.hid (show All w3 (((((((wx.setCell ⟨nb, 0, none⟩ (.int .i64 x.no)).setCell ⟨nb, 1, none⟩ (.int .i64 x.tm)).setCell ⟨nb, 2, none⟩ (.string x.paper)).setCell ⟨nb, 3, none⟩ (.string x.person)).setCell ⟨nb, 4, none⟩ (.string x.by_)).setCell ⟨nb, 5, none⟩ (.bool x.done)).setCell ⟨nb, 6, none⟩ (.slice aa x.answers.length ac)) from (((((((hg.then_setNew ⟨nb, 0, none⟩ (.int .i64 x.no) hnb).then_setNew ⟨nb, 1, none⟩ (.int .i64 x.tm) hnb).then_setNew ⟨nb, 2, none⟩ (.string x.paper) hnb).then_setNew ⟨nb, 3, none⟩ (.string x.person) hnb).then_setNew ⟨nb, 4, none⟩ (.string x.by_) hnb).then_setNew ⟨nb, 5, none⟩ (.bool x.done) hnb).then_setNew ⟨nb, 6, none⟩ (.slice aa x.answers.length ac) hnb))
            clear hnx j0 j1 j2 j3 j4 j5 j6
            clear hoth hdeps hdf hts ho
            refine wp_via (fun K' hK => ?_)
            have HK := Lib.hid hK
            clear hK
            go_simp
            exact HK.out _ _ ⟨undef, rfl, ⟨⟨HKN.out, fun h => by rw [put_at _ (by simp)]; exact hu (by simpa using h)⟩, by simp [Act.put, hsz]⟩, by rw [MLat, if_pos rfl]; exact ⟨e37, nb, e12, hnb, _, _, _, _, _, _, _, HN.out⟩, ⟨nb, (put_at _ (by simp)).trans e12, hnb, HN.out⟩⟩
        · intro L wx a' hgl hsz hd
          obtain ⟨⟨hg, -⟩, -⟩ := hgl
          have e39 : a'.tmps.getD 39 undef = .bool is := hd 8 (by decide)
          obtain ⟨nb, e12, hnb, hn7⟩ : DLat (.agg #[.slice a0 l0 c0, .slice a1 l1 c1, .slice a2 l2 c2, .slice a3 l3 c3, .slice a4 l4 c4, .int .i64 s.due, .int .i64 s.reply]) (.slice al ll cl) (.agg #[.string q.paper, .string q.person]) (.int .i64 tm) (Value.tuple #[.agg #[.int .i64 x.no, .int .i64 x.tm, .string x.paper, .string x.person, .string x.by_, .bool x.done, .slice aa x.answers.length ac], .bool is]) (.agg #[.int .i64 x.no, .int .i64 x.tm, .string x.paper, .string x.person, .string x.by_, .bool x.done, .slice aa x.answers.length ac]) (.bool is) #[.slice a0 l0 c0, .slice a1 l1 c1, .slice a2 l2 c2, .slice a3 l3 c3, .slice a4 l4 c4, .int .i64 s.due, .int .i64 s.reply] ts w3.heap.size #[.int .i64 x.no, .int .i64 x.tm, .string x.paper, .string x.person, .string x.by_, .bool x.done, .slice aa x.answers.length ac] 10 a' wx := hd 10 (by decide)
          rw [show dsts _ 11 = [32, 33, 34, 35, 36, 37, 31, 38, 39, 12] from by kernel_rfl]
          simp only [List.map_cons, List.map_nil, puts, Act.put, e39, e12, List.drop_succ_cons, List.drop_zero]
          generalize a'.tmps.getD 32 undef = f32
          generalize a'.tmps.getD 33 undef = f33
          generalize a'.tmps.getD 34 undef = f34
          generalize a'.tmps.getD 35 undef = f35
          generalize a'.tmps.getD 36 undef = f36
          generalize a'.tmps.getD 37 undef = f37
          generalize a'.tmps.getD 31 undef = f31
          generalize a'.tmps.getD 38 undef = f38
          clear hd e39 e12 hsz
          simp only [List.setIfInBounds_toArray, List.set_cons_zero, List.set_cons_succ]
          have hk5 : All w3 wx := hg
          clear hg
          go_upto_region 9 with fail
          obtain ⟨w5, rfl⟩ : ∃ x : World, x = wx := ⟨_, rfl⟩
          have q0 := cell_at (i := 0) hn7 rfl
          have q1 := cell_at (i := 1) hn7 rfl
          have q2 := cell_at (i := 2) hn7 rfl
          have q3 := cell_at (i := 3) hn7 rfl
          have q4 := cell_at (i := 4) hn7 rfl
          have q5 := cell_at (i := 5) hn7 rfl
          have q6 := cell_at (i := 6) hn7 rfl
          have HCL := Lib.hid (clone_any x aa ac w5 (HXA.out.keep RAns.ok hk5) (by have := HXS.out.2.2.2; omega))
          clear hn7
          go_wp2_with fail
          refine HCL.out.mono ?_
          rintro e w6 ⟨pa, pc, rfl, hacc, hw6⟩
          have hk6 := hk5.trans hw6
          have hR9 := (HBL3.out _ hk6).2.2
          clear q0 q1 q2 q3 q4 q5 q6
          have r0 := cell_at (i := 0) hR9 rfl
          have r1 := cell_at (i := 1) hR9 rfl
          have r2 := cell_at (i := 2) hR9 rfl
          have r3 := cell_at (i := 3) hR9 rfl
          have r4 := cell_at (i := 4) hR9 rfl
          have r5 := cell_at (i := 5) hR9 rfl
          have r6 := cell_at (i := 6) hR9 rfl
          have z0 := frozen_at (i := 0) hR9
          have z1 := frozen_at (i := 1) hR9
          have z2 := frozen_at (i := 2) hR9
          have z3 := frozen_at (i := 3) hR9
          have z4 := frozen_at (i := 4) hR9
          have z5 := frozen_at (i := 5) hR9
          have z6 := frozen_at (i := 6) hR9
          have j0 := heap_setCell_at w6 rb 0 (.int .i64 x.no) _ _ _ hR9
          have j1 := heap_setCell_at (w6.setCell ⟨rb, 0, none⟩ (.int .i64 x.no)) rb 1 (.int .i64 x.tm) _ _ _ j0
          have j2 := heap_setCell_at ((w6.setCell ⟨rb, 0, none⟩ (.int .i64 x.no)).setCell ⟨rb, 1, none⟩ (.int .i64 x.tm)) rb 2 (.string x.paper) _ _ _ j1
          have j3 := heap_setCell_at (((w6.setCell ⟨rb, 0, none⟩ (.int .i64 x.no)).setCell ⟨rb, 1, none⟩ (.int .i64 x.tm)).setCell ⟨rb, 2, none⟩ (.string x.paper)) rb 3 (.string x.person) _ _ _ j2
          have j4 := heap_setCell_at ((((w6.setCell ⟨rb, 0, none⟩ (.int .i64 x.no)).setCell ⟨rb, 1, none⟩ (.int .i64 x.tm)).setCell ⟨rb, 2, none⟩ (.string x.paper)).setCell ⟨rb, 3, none⟩ (.string x.person)) rb 4 (.string x.by_) _ _ _ j3
          have j5 := heap_setCell_at (((((w6.setCell ⟨rb, 0, none⟩ (.int .i64 x.no)).setCell ⟨rb, 1, none⟩ (.int .i64 x.tm)).setCell ⟨rb, 2, none⟩ (.string x.paper)).setCell ⟨rb, 3, none⟩ (.string x.person)).setCell ⟨rb, 4, none⟩ (.string x.by_)) rb 5 (.bool x.done) _ _ _ j4
          have j6 := heap_setCell_at ((((((w6.setCell ⟨rb, 0, none⟩ (.int .i64 x.no)).setCell ⟨rb, 1, none⟩ (.int .i64 x.tm)).setCell ⟨rb, 2, none⟩ (.string x.paper)).setCell ⟨rb, 3, none⟩ (.string x.person)).setCell ⟨rb, 4, none⟩ (.string x.by_)).setCell ⟨rb, 5, none⟩ (.bool x.done)) rb 6 (.slice pa x.answers.length pc) _ _ _ j5
          have hr7 : (((((((w6.setCell ⟨rb, 0, none⟩ (.int .i64 x.no)).setCell ⟨rb, 1, none⟩ (.int .i64 x.tm)).setCell ⟨rb, 2, none⟩ (.string x.paper)).setCell ⟨rb, 3, none⟩ (.string x.person)).setCell ⟨rb, 4, none⟩ (.string x.by_)).setCell ⟨rb, 5, none⟩ (.bool x.done)).setCell ⟨rb, 6, none⟩ (.slice pa x.answers.length pc)).heap[rb]? = some (.cells #[.int .i64 x.no, .int .i64 x.tm, .string x.paper, .string x.person, .string x.by_, .bool x.done, .slice pa x.answers.length pc] 45 (0, 0)) := by simpa using j6
          have hkr : Kept (fun j => j ≠ rb) w6 (((((((w6.setCell ⟨rb, 0, none⟩ (.int .i64 x.no)).setCell ⟨rb, 1, none⟩ (.int .i64 x.tm)).setCell ⟨rb, 2, none⟩ (.string x.paper)).setCell ⟨rb, 3, none⟩ (.string x.person)).setCell ⟨rb, 4, none⟩ (.string x.by_)).setCell ⟨rb, 5, none⟩ (.bool x.done)).setCell ⟨rb, 6, none⟩ (.slice pa x.answers.length pc)) := ((((((((Kept.refl (fun j => j ≠ rb) w6).then_setCell _ _ (fun h => h rfl)).then_setCell _ _ (fun h => h rfl)).then_setCell _ _ (fun h => h rfl)).then_setCell _ _ (fun h => h rfl)).then_setCell _ _ (fun h => h rfl)).then_setCell _ _ (fun h => h rfl)).then_setCell _ _ (fun h => h rfl))
          have hend := Lib.hid ((HK1.out.trans (hw13.trans hk6)).trans2 hkr (fun i hi _ e => by omega))
          have hsl := Lib.hid (show Sl RAns 4 (fun _ => True) (((((((w6.setCell ⟨rb, 0, none⟩ (.int .i64 x.no)).setCell ⟨rb, 1, none⟩ (.int .i64 x.tm)).setCell ⟨rb, 2, none⟩ (.string x.paper)).setCell ⟨rb, 3, none⟩ (.string x.person)).setCell ⟨rb, 4, none⟩ (.string x.by_)).setCell ⟨rb, 5, none⟩ (.bool x.done)).setCell ⟨rb, 6, none⟩ (.slice pa x.answers.length pc)) pa x.answers.length x.answers from by
            obtain ⟨p', c', he, h9⟩ := (hacc.keep RAns.ok hkr (fun _ h => h.elim) (hacc.notType hR9 (by decide))).sl RAns.ok (by decide) (G := fun _ => True) (fun _ h => h.elim) (fun _ _ => trivial)
            injection he with h1 h2 h3
            subst h1
            exact h9)
          have y0 := cell_at (i := 0) hr7 rfl
          have y1 := cell_at (i := 1) hr7 rfl
          have y2 := cell_at (i := 2) hr7 rfl
          have y3 := cell_at (i := 3) hr7 rfl
          have y4 := cell_at (i := 4) hr7 rfl
          have y5 := cell_at (i := 5) hr7 rfl
          have y6 := cell_at (i := 6) hr7 rfl
          clear hR9 hkr hr7 hacc j0 j1 j2 j3 j4 j5 j6
          go_wp2_with fail
          refine bodyPost_ret (v := .tuple #[.agg #[.int .i64 x.no, .int .i64 x.tm, .string x.paper, .string x.person, .string x.by_, .bool x.done, .slice pa x.answers.length pc], .bool is, .int .i64 0]) ?_ rfl ⟨?_, hend.out⟩
          · simp [results, Tryz.results19, go_sem, y0, y1, y2, y3, y4, y5, y6]
          · rw [HE2.out, ← HOE.out]
            exact ⟨x, pa, pc, by rw [HIS.out]; rfl, hsl.out, HXS.out, by rw [if_pos rfl, ← HYY.out]⟩
end Go.Proofs.YthhmgblcccbdaaaGreatDoor
