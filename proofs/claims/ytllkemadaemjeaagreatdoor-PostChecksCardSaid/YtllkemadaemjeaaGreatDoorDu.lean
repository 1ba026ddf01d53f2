/- The generator PostsOf. -/
import Derived.Test.YtllkemadaemjeaaGreatDoorDs
import Derived.Test.YtllkemadaemjeaaGreatDoorIp
import Derived.Test.YtllkemadaemjeaaGreatDoorIf
import Derived.Test.YtllkemadaemjeaaGreatDoorZl
namespace Go.Proofs.YtllkemadaemjeaaGreatDoor
open Go.RowKit

/-- What lies so stays under But, where it lies behind the stream. -/
theorem QAcc.staysB {α : Type} {R : Rel α} (ok : R.Ok) (sz : Nat) (T : TypeId) (B : Nat) (xs : List α) (s : Nat) (h : s < B) : Stays (But s) (QAcc R sz T B xs) :=
  fun _ _ _ k ⟨p, c, h1, h2⟩ => ⟨p, c, h1, h2.keep ok k (fun _ h => h.elim) (fun j hj => by have := (h2.lt j hj).1; omega)⟩
theorem QIs.staysB (u : Value) (s : Nat) : Stays (But s) (QIs u) := fun _ _ _ _ h => h
def QBool (v : Value) (_ : World) : Prop := ∃ r : Bool, v = .bool r
theorem QBool.staysB (s : Nat) : Stays (But s) QBool := fun _ _ _ _ h => h
def QRowB (s : Nat) (cs : Array Value) (T : TypeId) (v : Value) (w : World) : Prop := ∃ b, v = .slice (some ⟨b, 0, none⟩) 1 1 ∧ b ≠ s ∧ w.heap[b]? = some (.cells cs T (0, 0))
theorem QRowB.stays (s : Nat) (cs : Array Value) (T : TypeId) : Stays (But s) (QRowB s cs T) := fun _ _ _ k ⟨b, h1, h2, h3⟩ => ⟨b, h1, h2, k.heap h3 h2⟩

def QHdr (n : Nat) (v : Value) (_ : World) : Prop := ∃ p c, v = .slice p n c
theorem QHdr.staysB (n s : Nat) : Stays (But s) (QHdr n) := fun _ _ _ _ h => h
def QHd1 (v : Value) (_ : World) : Prop := ∃ b, v = .slice (some ⟨b, 0, none⟩) 1 1
theorem QHd1.staysB (s : Nat) : Stays (But s) QHd1 := fun _ _ _ _ h => h
/-- What holds while the region's operations come up: what the clone and the new row read, until the one is appended to the other. -/
def GP (σ : St) (n4 : Nat) (wA : World) (xs : List Post6) (cs : Array Value) (k : Nat) (L : Nat → Bool) (a : Act) (w : World) : Prop :=
  (∃ n', Str σ w n' ∧ n4 ≤ n' ∧ n' ≤ n4 + k ∧ But σ.b wA w) ∧ (L 8 = false → L 5 = true → a.tmps.getD 77 undef = undef ∨ QAcc RPost 6 58 wA.heap.size xs (a.tmps.getD 77 undef) w) ∧ (L 8 = false → L 7 = true → a.tmps.getD 79 undef = undef ∨ QRowB σ.b cs 58 (a.tmps.getD 79 undef) w)
theorem GP.step {σ : St} {n4 : Nat} {wA : World} {xs : List Post6} {cs : Array Value} {k : Nat} {L : Nat → Bool} {a : Act} {w : World} (h : GP σ n4 wA xs cs k L a w) (i t : Nat) (v : Value) (w' : World) (hl : σ.b < wA.heap.size) (ht : t < a.tmps.size) (hb : i ≠ 8 → But σ.b w w')
    (hn : ∃ n', Str σ w' n' ∧ n4 ≤ n' ∧ n' ≤ n4 + (k + 1) ∧ But σ.b wA w') (h5 : i ≠ 8 → t = 77 → v = undef ∨ QAcc RPost 6 58 wA.heap.size xs v w') (h7 : i ≠ 8 → t = 79 → v = undef ∨ QRowB σ.b cs 58 v w') (h5' : i = 5 → t = 77) (h7' : i = 7 → t = 79) :
    GP σ n4 wA xs cs (k + 1) (fun j => if j = i then true else L j) (a.put (some t) v) w' := by
  have same : (a.put (some t) v).tmps.getD t undef = v := by simp [Act.put, Array.getD_eq_getD_getElem?, ht]
  obtain ⟨-, g5, g7⟩ := h
  refine ⟨hn, fun e8 e5 => ?_, fun e8 e7 => ?_⟩
  · replace e8 : (if 8 = i then true else L 8) = false := e8
    replace e5 : (if 5 = i then true else L 5) = true := e5
    by_cases hi8 : 8 = i
    · rw [if_pos hi8] at e8; cases e8
    · rw [if_neg hi8] at e8
      by_cases h77 : t = 77
      · subst h77; rw [same]; exact h5 (fun h => hi8 h.symm) rfl
      · rw [put_other v h77]
        rw [if_neg (fun h => h77 (h5' h.symm))] at e5
        exact (g5 e8 e5).imp id (QAcc.staysB RPost.ok 6 58 wA.heap.size xs σ.b hl _ _ _ (hb (fun h => hi8 h.symm)))
  · replace e8 : (if 8 = i then true else L 8) = false := e8
    replace e7 : (if 7 = i then true else L 7) = true := e7
    by_cases hi8 : 8 = i
    · rw [if_pos hi8] at e8; cases e8
    · rw [if_neg hi8] at e8
      by_cases h79 : t = 79
      · subst h79; rw [same]; exact h7 (fun h => hi8 h.symm) rfl
      · rw [put_other v h79]
        rw [if_neg (fun h => h79 (h7' h.symm))] at e7
        exact (g7 e8 e7).imp id (QRowB.stays σ.b cs 58 _ _ _ (hb (fun h => hi8 h.symm)))

def IsPosts (B mx : Nat) (v : Value) (w : World) : Prop := ∃ xs : List Post6, xs.length ≤ mx ∧ Acc RPost 6 58 (fun _ => False) B w v xs
/-- A post is being made in block pb; the row v is as it was. -/
def MakeP (σ : St) (pb n3 c : Nat) (w2 : World) (v : Value) (xs : List Post6) (wx : World) : Prop :=
  ∃ (y : Post6) (n' : Nat), PostSmall y ∧ wx.heap[pb]? = some (.cells #[.int .i64 y.no, .int .i64 y.tm, .string y.paper, .string y.person, .int .i64 y.ans, .string y.words] 58 (0, 0)) ∧ Str σ wx n' ∧ n3 ≤ n' ∧ n' ≤ n3 + c ∧ But σ.b w2 wx ∧ Acc RPost 6 58 (fun _ => False) w2.heap.size wx v xs

set_option maxRecDepth 100000 in
set_option maxHeartbeats 12800000 in
theorem postsOf_any (a0 : Option Addr) (l0 c0 : Nat) (a1 : Option Addr) (l1 c1 : Nat) (a2 : Option Addr) (l2 c2 : Nat) (a3 : Option Addr) (l3 c3 : Nat) (b : Board4) (M : Nat) (σ : St) (n : Nat) (w : World) (hs : Str σ w n) (hn : n ≤ 4611686018427200000) (hM : M ≤ 12) (hbd : ∀ wx, But σ.b w wx → BoardIs wx a0 l0 a1 l1 a2 l2 a3 l3 b) (hc3 : l3 ≤ c3) (hg : ∀ wx, But σ.b w wx → Tabs wx) :
    Calls Tryz.prog 21 #[.pointer (some ⟨σ.b, 0, none⟩), .agg #[.slice a0 l0 c0, .slice a1 l1 c1, .slice a2 l2 c2, .slice a3 l3 c3], .int .i64 M] w (StPost σ n 400 w (IsPosts w.heap.size 12)) := by
  have hlt := hs.lt
  have hk1 : But σ.b w (w.alloc (.cells #[.slice a0 l0 c0, .slice a1 l1 c1, .slice a2 l2 c2, .slice a3 l3 c3] 50)) := Kept.alloc _ _ _
  have hs1 := hs.keep (Kept.alloc (fun _ => True) w (.cells #[.slice a0 l0 c0, .slice a1 l1 c1, .slice a2 l2 c2, .slice a3 l3 c3] 50))
  have hB := heap_at w (.cells #[.slice a0 l0 c0, .slice a1 l1 c1, .slice a2 l2 c2, .slice a3 l3 c3] 50) _ rfl
  obtain ⟨bb, hbb⟩ : ∃ k, k = w.heap.size := ⟨_, rfl⟩
  have HBB := Lib.hid hbb
  rw [← hbb] at hB
  have hbs : bb ≠ σ.b := by omega
  have HC := Lib.hid (fun (wx : World) (k : But σ.b (w.alloc (.cells #[.slice a0 l0 c0, .slice a1 l1 c1, .slice a2 l2 c2, .slice a3 l3 c3] 50)) wx) => (⟨k.cell (cell_at (i := 0) hB rfl) hbs, k.cell (cell_at (i := 1) hB rfl) hbs, k.cell (cell_at (i := 2) hB rfl) hbs, k.cell (cell_at (i := 3) hB rfl) hbs⟩ : _ ∧ _ ∧ _ ∧ _))
  have HBD := Lib.hid (fun (wx : World) (k : But σ.b (w.alloc (.cells #[.slice a0 l0 c0, .slice a1 l1 c1, .slice a2 l2 c2, .slice a3 l3 c3] 50)) wx) => hbd wx (hk1.trans k))
  have HG := Lib.hid (fun (wx : World) (k : But σ.b (w.alloc (.cells #[.slice a0 l0 c0, .slice a1 l1 c1, .slice a2 l2 c2, .slice a3 l3 c3] 50)) wx) => hg wx (hk1.trans k))
  have hsq : w.heap.size ≤ (w.alloc (.cells #[.slice a0 l0 c0, .slice a1 l1 c1, .slice a2 l2 c2, .slice a3 l3 c3] 50)).heap.size := by simp
  obtain ⟨m1, hm1⟩ : ∃ m, m = n := ⟨_, rfl⟩
  rw [← hm1] at hs1
  have HK1 := Lib.hid hk1
  clear hB hbd hg hs hbb hk1
  go_enter Tryz.func21, Tryz.ntmps21
  go_upto_region 3 with fail
  simp only [← HBB.out]
  generalize w.alloc (.cells #[.slice a0 l0 c0, .slice a1 l1 c1, .slice a2 l2 c2, .slice a3 l3 c3] 50) = wq at *
  have hlq := hs1.lt
  go_wp2_with fail
  go_loopw [7, 8, 11] (fun o q i wr => ∃ k : Nat, k ≤ M ∧ i = .int .i64 k ∧ ∃ (xs : List Post6) (n' tm : Nat), q = .int .i64 tm ∧ tm ≤ 10 * k ∧ xs.length ≤ k ∧ Acc RPost 6 58 (fun _ => False) wq.heap.size wr o xs ∧ Str σ wr n' ∧ m1 ≤ n' ∧ n' ≤ m1 + 30 * k ∧ But σ.b wq wr) (fun _ _ i _ => M - (intOf i).toNat)
  case atStart => exact ⟨0, Nat.zero_le _, rfl, [], m1, 0, rfl, by omega, Nat.le_refl _, Acc.nil _ _ _ _ _ _, hs1, Nat.le_refl _, by omega, Kept.refl _ _⟩
  case round =>
    clear hs1
    obtain ⟨k, hk, rfl, xs, n0, tm, rfl, htm, hxl, ac0, hs0, hn1, hn2, hw0⟩ := hrel
    obtain ⟨w0, rfl⟩ : ∃ wo : World, wo = wr := ⟨_, rfl⟩
    obtain ⟨av, cv, rfl, hcv⟩ := ac0.form
    obtain ⟨m, hm⟩ : ∃ m, m = xs.length := ⟨_, rfl⟩
    have HM := Lib.hid hm
    rw [← hm] at ac0 hcv hxl ⊢
    clear hm
    by_cases hlt2 : k < M
    · have hl0 := hs0.lt
      go_wp2_with fail
      refine (pick_any σ n0 _ 4 4 [0, 1, 5, 10] _ (hs0.keep (Kept.alloc _ _ _)) (by omega) (Sl.lit_ints _ (heap_at w0 _ _ rfl) rfl (by have := hs0.lt; omega)) (by omega) (by omega)).mono ?_
      rintro e w1 ⟨v, n1, rfl, ⟨z1, rfl, hz1⟩, hA1, hB1, hs1, hb1⟩
      have hw1 := (hw0.then_alloc _).trans hb1
      have ac1 := (ac0.keepAll RPost.ok ((Kept.refl _ _).then_alloc _)).keep RPost.ok hb1 (fun _ h => h.elim) (fun k hk => by have := (ac0.lt k hk).1; omega)
      clear hs0 hb1 hw0 ac0
      have hl1 := hs1.lt
      obtain ⟨d1, hd1, hd1b⟩ : ∃ d : Nat, z1 = (d : Int) ∧ d ≤ 10 := by
        simp only [List.mem_cons, List.not_mem_nil, or_false] at hz1
        exact ⟨z1.toNat, by omega, by omega⟩
      subst hd1
      clear hz1
      go_wp2_with fail
      refine (some10_any σ n1 _ 4 4 [⟨#[112, 97]⟩, ⟨#[112, 97]⟩, ⟨#[112, 98]⟩, ⟨#[112, 99]⟩] _ (hs1.keep (Kept.alloc _ _ _)) (by omega) (Sl.lit_strs _ (heap_at w1 _ _ rfl) rfl (by have := hs1.lt; omega)) (by omega) (by omega)).mono ?_
      rintro e w2 ⟨v, n2, rfl, ⟨y2, rfl, -, hy2⟩, hA2, hB2, hs2, hb2⟩
      have hw2 := (hw1.then_alloc _).trans hb2
      have ac2 := (ac1.keepAll RPost.ok ((Kept.refl _ _).then_alloc _)).keep RPost.ok hb2 (fun _ h => h.elim) (fun k hk => by have := (ac1.lt k hk).1; omega)
      clear hs1 hb2 hw1 ac1
      have hl2 := hs2.lt
      go_wp2_with fail
      refine (some10_any σ n2 _ 5 5 [⟨#[97, 110, 110]⟩, ⟨#[98, 111, 98]⟩, ⟨#[99, 105, 100]⟩, ⟨#[100, 101, 101]⟩, ⟨#[101, 118, 101]⟩] _ (hs2.keep (Kept.alloc _ _ _)) (by omega) (Sl.lit_strs _ (heap_at w2 _ _ rfl) rfl (by have := hs2.lt; omega)) (by omega) (by omega)).mono ?_
      rintro e w3 ⟨v, n3, rfl, ⟨y3, rfl, -, hy3⟩, hA3, hB3, hs3, hb3⟩
      have hw3 := (hw2.then_alloc _).trans hb3
      have ac3 := (ac2.keepAll RPost.ok ((Kept.refl _ _).then_alloc _)).keep RPost.ok hb3 (fun _ h => h.elim) (fun k hk => by have := (ac2.lt k hk).1; omega)
      clear hs2 hb3 hw2 ac2
      have hl3 := hs3.lt
      go_wp2_with fail
      refine (range_any σ n3 0 m _ hs3 (by omega) (by omega) (by omega) (by omega)).mono ?_
      rintro e w4 ⟨v, n4, rfl, ⟨z4, rfl, hz4a, hz4b⟩, hA4, hB4, hs4, hb4⟩
      have hw4 := (hw3).trans hb4
      have ac4 := ac3.keep RPost.ok hb4 (fun _ h => h.elim) (fun k hk => by have := (ac3.lt k hk).1; omega)
      clear hs3 hb4 hw3 ac3
      have hl4 := hs4.lt
      go_wp2_with fail
      refine (some10_any σ n4 _ 3 3 [⟨#[97, 10]⟩, ⟨#[111, 110, 101, 10, 116, 119, 111, 10]⟩, ⟨#[10]⟩] _ (hs4.keep (Kept.alloc _ _ _)) (by omega) (Sl.lit_strs _ (heap_at w4 _ _ rfl) rfl (by have := hs4.lt; omega)) (by omega) (by omega)).mono ?_
      rintro e w5 ⟨v, n5, rfl, ⟨y5, rfl, -, hy5⟩, hA5, hB5, hs5, hb5⟩
      have hw5 := (hw4.then_alloc _).trans hb5
      have ac5 := (ac4.keepAll RPost.ok ((Kept.refl _ _).then_alloc _)).keep RPost.ok hb5 (fun _ h => h.elim) (fun k hk => by have := (ac4.lt k hk).1; omega)
      clear hs4 hb5 hw4 ac4
      have hl5 := hs5.lt
      have hs6 := hs5.keep (Kept.alloc (fun _ => True) w5 (.cells #[.int .i64 ((m : Int) + 1), .int .i64 ((tm : Int) + (d1 : Int)), .string y2, .string y3, .int .i64 z4, .string y5] 58))
      have hw6 : But σ.b wq (w5.alloc (.cells #[.int .i64 ((m : Int) + 1), .int .i64 ((tm : Int) + (d1 : Int)), .string y2, .string y3, .int .i64 z4, .string y5] 58)) := hw5.then_alloc _
      have ac6 := ac5.keepAll RPost.ok (Kept.alloc (fun _ => True) w5 (.cells #[.int .i64 ((m : Int) + 1), .int .i64 ((tm : Int) + (d1 : Int)), .string y2, .string y3, .int .i64 z4, .string y5] 58))
      have bk6 := heap_at w5 (.cells #[.int .i64 ((m : Int) + 1), .int .i64 ((tm : Int) + (d1 : Int)), .string y2, .string y3, .int .i64 z4, .string y5] 58) _ rfl
      obtain ⟨pb, hpb⟩ : ∃ pb, pb = w5.heap.size := ⟨_, rfl⟩
      have HPB := Lib.hid hpb
      rw [← hpb] at bk6
      have hacl := Lib.hid (fun k hk => (ac5.lt k hk).2)
      have hps : pb ≠ σ.b := by omega
      have hszi := hw5.size
      have hpw : wq.heap.size ≤ pb := by omega
      have hna : ∀ k, (Value.slice av m cv).ownBlock = some k → k ≠ pb := fun k hk => by have := hacl.out k hk; omega
      have hsb : σ.b < pb := by omega
      have HNA := Lib.hid hna
      have hyp := Lib.hid (show PostSmall ⟨(m : Int) + 1, (tm : Int) + (d1 : Int), y2, y3, z4, y5⟩ from ⟨hy2, hy3, hy5⟩)
      clear hs5 hw5 ac5 hpb hacl hna hy2 hy3 hy5 hcv
      obtain ⟨n6, hnn6⟩ : ∃ m, m = n5 := ⟨_, rfl⟩
      rw [← hnn6] at hs6
      go_wp2_with fail
      simp only [← HPB.out]
      generalize w5.alloc (.cells #[.int .i64 ((m : Int) + 1), .int .i64 ((tm : Int) + (d1 : Int)), .string y2, .string y3, .int .i64 z4, .string y5] 58) = w6 at *
      have hl6 := hs6.lt
      refine (flip_any σ n6 30 _ hs6 (by omega) (by omega) (by omega)).mono ?_
      rintro e w7 ⟨v, n7, rfl, ⟨fb, rfl⟩, hA7, hB7, hs7, hb7⟩
      have hw7 := (hw6).trans hb7
      have ac7 := ac6.keep RPost.ok hb7 (fun _ h => h.elim) (fun k hk => by have := (ac6.lt k hk).1; omega)
      have bk7 := hb7.heap bk6 hps
      clear hs6 hb7 hw6 ac6 bk6
      have hl7 := hs7.lt
      have hnA : m1 ≤ n7 := by omega
      have hnB : n7 ≤ m1 + 30 * k + 6 := by omega
      obtain ⟨n3, hn3⟩ : ∃ q, q = n7 := ⟨_, rfl⟩
      rw [← hn3] at hnA hnB
      have hz0 : n7 ≤ n3 + 0 := by omega
      have hz1 : n3 ≤ n7 := by omega
      go_upto_if 37 with fail
      go_cut [] (fun wx => MakeP σ pb n3 10 wq (.slice av m cv) xs wx)
      case first =>
        cases fb with
        | false =>
          have hfin := Lib.hid (show MakeP σ pb n3 10 wq (.slice av m cv) xs _ from ⟨⟨(m : Int) + 1, (tm : Int) + (d1 : Int), y2, y3, z4, y5⟩, n7, hyp.out, bk7, hs7, by omega, by omega, hw7, ac7⟩)
          clear bk7 hs7 hw7 ac7
          go_wp2_with fail
          go_meet
          exact hfin.out
        | true =>
          go_wp2_with fail
          refine (next_any σ n7 4 _ hs7 (by omega) (by omega) (by omega)).mono ?_
          rintro e w8 ⟨v, n8, rfl, ⟨r6, rfl, hr6a, hr6b⟩, hA8, hB8, hs8, hb8⟩
          have hw8 := (hw7).trans hb8
          have ac8 := ac7.keep RPost.ok hb8 (fun _ h => h.elim) (fun k hk => by have := (ac7.lt k hk).1; omega)
          have bk8 := hb8.heap bk7 hps
          clear hs7 hb8 hw7 ac7 bk7
          have hl8 := hs8.lt
          have hr6 : r6 = 0 ∨ r6 = 1 ∨ r6 = 2 ∨ r6 = 3 := by omega
          clear hr6a hr6b
          rcases hr6 with rfl | rfl | rfl | rfl
          · go_wp2_with fail
            refine (odd10_any σ n8 1 9 _ hs8 (by omega) (by omega) (by omega) (by omega)).mono ?_
            rintro e w9 ⟨v, n9, rfl, ⟨x7, rfl, hx7⟩, hA9, hB9, hs9, hb9⟩
            have hw9 := (hw8).trans hb9
            have ac9 := ac8.keep RPost.ok hb9 (fun _ h => h.elim) (fun k hk => by have := (ac8.lt k hk).1; omega)
            have bk9 := hb9.heap bk8 hps
            clear hs8 hb9 hw8 ac8 bk8
            have hl9 := hs9.lt
            clear hx7
            go_wp2_with fail
            refine (odd10_any σ n9 0 100 _ hs9 (by omega) (by omega) (by omega) (by omega)).mono ?_
            rintro e w10 ⟨v, n10, rfl, ⟨x8, rfl, hx8⟩, hA10, hB10, hs10, hb10⟩
            have hw10 := (hw9).trans hb10
            have ac10 := ac9.keep RPost.ok hb10 (fun _ h => h.elim) (fun k hk => by have := (ac9.lt k hk).1; omega)
            have bk10 := hb10.heap bk9 hps
            clear hs9 hb10 hw9 ac9 bk9
            have hl10 := hs10.lt
            clear hx8
            have q0 := cell_at (i := 0) bk10 rfl
            have f0 := frozen_at (i := 0) bk10
            have q1 := cell_at (i := 1) bk10 rfl
            have f1 := frozen_at (i := 1) bk10
            have bkf := (heap_setCell_at _ pb 1 (.int .i64 x8) _ _ _ (heap_setCell_at _ pb 0 (.int .i64 x7) _ _ _ bk10))
            simp only [List.setIfInBounds_toArray, List.set_cons_zero, List.set_cons_succ] at bkf
            have hfin := Lib.hid (show MakeP σ pb n3 10 wq (.slice av m cv) xs _ from ⟨⟨x7, x8, y2, y3, z4, y5⟩, n10, hyp.out, bkf, ((hs10.set ⟨pb, 0, none⟩ (.int .i64 x7) hsb).set ⟨pb, 1, none⟩ (.int .i64 x8) hsb), by omega, by omega, ((hw10.then_setNew ⟨pb, 0, none⟩ (.int .i64 x7) hpw).then_setNew ⟨pb, 1, none⟩ (.int .i64 x8) hpw), ac10.keep RPost.ok (((Kept.refl (fun k => k ≠ pb) w10).then_setCell ⟨pb, 0, none⟩ (.int .i64 x7) (by simp)).then_setCell ⟨pb, 1, none⟩ (.int .i64 x8) (by simp)) (fun _ h => h.elim) (fun k hk => HNA.out k hk)⟩)
            clear bk10 hs10 hw10 ac10 bkf
            go_wp2_with fail
            go_meet
            exact hfin.out
          · go_wp2_with fail
            refine (some10_any σ n8 _ 2 2 [⟨#[112, 97]⟩, ⟨#[65]⟩] _ (hs8.keep (Kept.alloc _ _ _)) (by omega) (Sl.lit_strs _ (heap_at w8 _ _ rfl) rfl (by have := hs8.lt; omega)) (by omega) (by omega)).mono ?_
            rintro e w9 ⟨v, n9, rfl, ⟨x7, rfl, -, hx7⟩, hA9, hB9, hs9, hb9⟩
            have hw9 := (hw8.then_alloc _).trans hb9
            have ac9 := (ac8.keepAll RPost.ok ((Kept.refl _ _).then_alloc _)).keep RPost.ok hb9 (fun _ h => h.elim) (fun k hk => by have := (ac8.lt k hk).1; omega)
            have bk9 := hb9.heap (heap_old _ bk8) hps
            clear hs8 hb9 hw8 ac8 bk8
            have hl9 := hs9.lt
            go_wp2_with fail
            refine (some10_any σ n9 _ 2 2 [⟨#[122, 101, 100]⟩, ⟨#[]⟩] _ (hs9.keep (Kept.alloc _ _ _)) (by omega) (Sl.lit_strs _ (heap_at w9 _ _ rfl) rfl (by have := hs9.lt; omega)) (by omega) (by omega)).mono ?_
            rintro e w10 ⟨v, n10, rfl, ⟨x8, rfl, -, hx8⟩, hA10, hB10, hs10, hb10⟩
            have hw10 := (hw9.then_alloc _).trans hb10
            have ac10 := (ac9.keepAll RPost.ok ((Kept.refl _ _).then_alloc _)).keep RPost.ok hb10 (fun _ h => h.elim) (fun k hk => by have := (ac9.lt k hk).1; omega)
            have bk10 := hb10.heap (heap_old _ bk9) hps
            clear hs9 hb10 hw9 ac9 bk9
            have hl10 := hs10.lt
            have q2 := cell_at (i := 2) bk10 rfl
            have f2 := frozen_at (i := 2) bk10
            have q3 := cell_at (i := 3) bk10 rfl
            have f3 := frozen_at (i := 3) bk10
            have bkf := (heap_setCell_at _ pb 3 (.string x8) _ _ _ (heap_setCell_at _ pb 2 (.string x7) _ _ _ bk10))
            simp only [List.setIfInBounds_toArray, List.set_cons_zero, List.set_cons_succ] at bkf
            have hfin := Lib.hid (show MakeP σ pb n3 10 wq (.slice av m cv) xs _ from ⟨⟨(m : Int) + 1, (tm : Int) + (d1 : Int), x7, x8, z4, y5⟩, n10, ⟨hx7, hx8, hyp.out.2.2⟩, bkf, ((hs10.set ⟨pb, 2, none⟩ (.string x7) hsb).set ⟨pb, 3, none⟩ (.string x8) hsb), by omega, by omega, ((hw10.then_setNew ⟨pb, 2, none⟩ (.string x7) hpw).then_setNew ⟨pb, 3, none⟩ (.string x8) hpw), ac10.keep RPost.ok (((Kept.refl (fun k => k ≠ pb) w10).then_setCell ⟨pb, 2, none⟩ (.string x7) (by simp)).then_setCell ⟨pb, 3, none⟩ (.string x8) (by simp)) (fun _ h => h.elim) (fun k hk => HNA.out k hk)⟩)
            clear bk10 hs10 hw10 ac10 bkf
            go_wp2_with fail
            go_meet
            exact hfin.out
          · go_wp2_with fail
            refine (odd10_any σ n8 0 9 _ hs8 (by omega) (by omega) (by omega) (by omega)).mono ?_
            rintro e w9 ⟨v, n9, rfl, ⟨x7, rfl, hx7⟩, hA9, hB9, hs9, hb9⟩
            have hw9 := (hw8).trans hb9
            have ac9 := ac8.keep RPost.ok hb9 (fun _ h => h.elim) (fun k hk => by have := (ac8.lt k hk).1; omega)
            have bk9 := hb9.heap bk8 hps
            clear hs8 hb9 hw8 ac8 bk8
            have hl9 := hs9.lt
            clear hx7
            have q4 := cell_at (i := 4) bk9 rfl
            have f4 := frozen_at (i := 4) bk9
            have bkf := (heap_setCell_at _ pb 4 (.int .i64 x7) _ _ _ bk9)
            simp only [List.setIfInBounds_toArray, List.set_cons_zero, List.set_cons_succ] at bkf
            have hfin := Lib.hid (show MakeP σ pb n3 10 wq (.slice av m cv) xs _ from ⟨⟨(m : Int) + 1, (tm : Int) + (d1 : Int), y2, y3, x7, y5⟩, n9, hyp.out, bkf, (hs9.set ⟨pb, 4, none⟩ (.int .i64 x7) hsb), by omega, by omega, (hw9.then_setNew ⟨pb, 4, none⟩ (.int .i64 x7) hpw), ac9.keep RPost.ok ((Kept.refl (fun k => k ≠ pb) w9).then_setCell ⟨pb, 4, none⟩ (.int .i64 x7) (by simp)) (fun _ h => h.elim) (fun k hk => HNA.out k hk)⟩)
            clear bk9 hs9 hw9 ac9 bkf
            go_wp2_with fail
            go_meet
            exact hfin.out
          · go_wp2_with fail
            refine (pick_any σ n8 _ 2 2 [3999, 4000] _ (hs8.keep (Kept.alloc _ _ _)) (by omega) (Sl.lit_ints _ (heap_at w8 _ _ rfl) rfl (by have := hs8.lt; omega)) (by omega) (by omega)).mono ?_
            rintro e w9 ⟨v, n9, rfl, ⟨z7, rfl, hz7⟩, hA9, hB9, hs9, hb9⟩
            have hw9 := (hw8.then_alloc _).trans hb9
            have ac9 := (ac8.keepAll RPost.ok ((Kept.refl _ _).then_alloc _)).keep RPost.ok hb9 (fun _ h => h.elim) (fun k hk => by have := (ac8.lt k hk).1; omega)
            have bk9 := hb9.heap (heap_old _ bk8) hps
            clear hs8 hb9 hw8 ac8 bk8
            have hl9 := hs9.lt
            have hz7v : z7 = 3999 ∨ z7 = 4000 := by simpa using hz7
            obtain ⟨zn, hzn⟩ : ∃ zn : Nat, z7 = (zn : Int) := ⟨z7.toNat, by omega⟩
            subst hzn
            have hznb : zn ≤ 4000 := by omega
            clear hz7 hz7v
            go_wp2_with fail
            refine (repeat_any ⟨#[119]⟩ zn _ (by show 1 * zn ≤ _; omega) (by omega)).mono ?_
            rintro e w10 ⟨tt, rfl, htt, hq10⟩
            have hb10 : But σ.b w9 w10 := Kept.all hq10
            have hs10 := hs9.keep hq10
            have htt2 : tt.size ≤ 4000 := by have : (⟨#[119]⟩ : ByteArray).size = 1 := rfl; rw [this] at htt; omega
            obtain ⟨n10, hnn10⟩ : ∃ m, m = n9 := ⟨_, rfl⟩
            rw [← hnn10] at hs10
            have hnl : (⟨#[10]⟩ : ByteArray).size = 1 := rfl
            obtain ⟨t2, -, ht2, gcat⟩ := catR_run Tryz.prog tt ⟨#[10]⟩ (by omega)
            have ht3 : t2.size ≤ 1000000 := by omega
            clear htt ht2 hnl hq10
            have hw10 := (hw9).trans hb10
            have ac10 := ac9.keep RPost.ok hb10 (fun _ h => h.elim) (fun k hk => by have := (ac9.lt k hk).1; omega)
            have bk10 := hb10.heap bk9 hps
            clear hs9 hb10 hw9 ac9 bk9
            have hl10 := hs10.lt
            go_wp2_with fail
            refine (some10_any σ n10 _ 3 3 [⟨#[]⟩, ⟨#[120]⟩, t2] _ (hs10.keep (Kept.alloc _ _ _)) (by omega) (Sl.lit_strs' [⟨#[]⟩, ⟨#[120]⟩, t2] (heap_at w10 _ _ rfl) rfl (by have := hs10.lt; omega) (by intro s hs; simp only [List.mem_cons, List.not_mem_nil, or_false] at hs; rcases hs with rfl | rfl | rfl <;> first | exact ht3 | decide)) (by omega) (by omega)).mono ?_
            rintro e w11 ⟨v, n11, rfl, ⟨x8, rfl, -, hx8⟩, hA11, hB11, hs11, hb11⟩
            have hw11 := (hw10.then_alloc _).trans hb11
            have ac11 := (ac10.keepAll RPost.ok ((Kept.refl _ _).then_alloc _)).keep RPost.ok hb11 (fun _ h => h.elim) (fun k hk => by have := (ac10.lt k hk).1; omega)
            have bk11 := hb11.heap (heap_old _ bk10) hps
            clear hs10 hb11 hw10 ac10 bk10
            have hl11 := hs11.lt
            clear gcat
            have q5 := cell_at (i := 5) bk11 rfl
            have f5 := frozen_at (i := 5) bk11
            have bkf := (heap_setCell_at _ pb 5 (.string x8) _ _ _ bk11)
            simp only [List.setIfInBounds_toArray, List.set_cons_zero, List.set_cons_succ] at bkf
            have hfin := Lib.hid (show MakeP σ pb n3 10 wq (.slice av m cv) xs _ from ⟨⟨(m : Int) + 1, (tm : Int) + (d1 : Int), y2, y3, z4, x8⟩, n11, ⟨hyp.out.1, hyp.out.2.1, hx8⟩, bkf, (hs11.set ⟨pb, 5, none⟩ (.string x8) hsb), by omega, by omega, (hw11.then_setNew ⟨pb, 5, none⟩ (.string x8) hpw), ac11.keep RPost.ok ((Kept.refl (fun k => k ≠ pb) w11).then_setCell ⟨pb, 5, none⟩ (.string x8) (by simp)) (fun _ h => h.elim) (fun k hk => HNA.out k hk)⟩)
            clear bk11 hs11 hw11 ac11 bkf
            go_wp2_with fail
            go_meet
            exact hfin.out
      case rest =>
        clear bk7 hs7 hw7 ac7 hyp hz0 hz1 hn3 hl7
        obtain ⟨y, n4, hysm, bkA, hsA, hnC, hnD, hwA, acA⟩ := hcut
        obtain ⟨wA, rfl⟩ : ∃ q : World, q = wc := ⟨_, rfl⟩
        go_upto_region 16 with fail
        go_cut [83] (fun t wx => (∃ r : Bool, t = .bool r) ∧ ∃ n', Str σ wx n' ∧ n4 ≤ n' ∧ n' ≤ n4 + 10 ∧ But σ.b wA wx)
        case first =>
          have hlA := hsA.lt
          have hwAs := hwA.size
          obtain ⟨av', cv', hv', slA⟩ := acA.sl RPost.ok (by decide) (G := fun k => k ≠ σ.b) (fun _ h => h.elim) (fun k hk => by have := (acA.lt k hk).1; omega)
          rw [← HM.out] at hv' slA
          injection hv' with q1 q2 q3
          subst q1 q3
          clear q2
          have HSL := Lib.hid (fun (wx : World) (k : But σ.b wA wx) => (slA.keep RPost.ok k).mono RPost.ok (G := fun _ => True) (fun _ _ => trivial))
          have HCL := Lib.hid (fun (wx : World) (k : But σ.b wA wx) => clonePost_any av m cv xs wx (HSL.out wx k) (by omega))
          have HPF := Lib.hid (fun (wx : World) (k : But σ.b wA wx) (p : Option Addr) (c : Nat) (ys : List Post6) (hy : ys.length = m + 1) (hs : Sl RPost 6 (fun _ => True) wx p (m + 1) ys) (hc : m + 1 ≤ c) => postsFault_any a0 l0 c0 a1 l1 c1 a2 l2 c2 a3 l3 c3 b p (m + 1) c ys wx (HBD.out wx (hwA.trans k)) hc3 hs (by omega) hc (HG.out wx (hwA.trans k)))
          have HCC := Lib.hid (fun (wx : World) (k : But σ.b wA wx) => HC.out wx (hwA.trans k))
          have HPK := Lib.hid (fun (wx : World) (k : But σ.b wA wx) => k.heap bkA hps)
          have HMB := Lib.hid (show m ≤ 12 by omega)
          have HSA := Lib.hid hsA
          clear slA acA bkA hsA
          refine wp_region_guardL 9 2 74 false (by kernel_rfl) (by kernel_rfl) (by kernel_rfl) (GP σ n4 wA xs #[.int .i64 y.no, .int .i64 y.tm, .string y.paper, .string y.person, .int .i64 y.ans, .string y.words])
            (DL [QIs (.pointer (some ⟨σ.b, 0, none⟩)), QBool, QBool, QIs (.agg #[.slice a0 l0 c0, .slice a1 l1 c1, .slice a2 l2 c2, .slice a3 l3 c3]), QIs (.slice av m cv), QHdr xs.length, QIs (.agg #[.int .i64 y.no, .int .i64 y.tm, .string y.paper, .string y.person, .int .i64 y.ans, .string y.words]), QHd1, QAcc RPost 6 58 wA.heap.size (xs ++ [y])]) (fun j w w' => j ≠ 8 → But σ.b w w') (fun _ w _ => Kept.refl _ w)
            (fun i j v w1 w2 hi hj hij _ hm hd => ?_) ?_ ?_ (fun v w h => h) ?_ ?_
          · by_cases hj8 : j = 8
            · have hz : i = 0 ∨ i = 1 ∨ i = 2 ∨ i = 3 ∨ i = 4 ∨ i = 5 ∨ i = 6 ∨ i = 7 := by omega
              rcases hz with rfl | rfl | rfl | rfl | rfl | rfl | rfl | rfl <;> exact hd
            · exact DL.keep (M := But σ.b) (by simp only [List.forall_mem_cons, List.not_mem_nil, false_implies, implies_true, and_true]; exact ⟨QIs.staysB _ _, QBool.staysB _, QBool.staysB _, QIs.staysB _ _, QIs.staysB _ _, QHdr.staysB _ _, QIs.staysB _ _, QHd1.staysB _, QAcc.staysB RPost.ok _ _ _ _ _ hlA⟩) i v w1 w2 (hm hj8) hd
          · exact ⟨⟨n4, HSA.out.keep (Kept.drew _ _), Nat.le_refl _, by omega, Kept.drew _ _⟩, fun _ h => (by cases h), fun _ h => (by cases h)⟩
          · intro i t k' L a' wx hi hd _ hta hgg _
            have hgg2 := hgg
            obtain ⟨⟨n', h1, h2, h3, h4⟩, -, -⟩ := hgg2
            exact hgg.step i t undef wx hlA hta (fun _ => Kept.refl _ _) ⟨n', h1, h2, by omega, h4⟩ (fun _ _ => Or.inl rfl) (fun _ _ => Or.inl rfl) (fun h => by subst h; exact (Option.some.inj hd).symm) (fun h => by subst h; exact (Option.some.inj hd).symm)
          · intro i o t ho hd hi k' L a' wx hk' hgg hLi hdf hta hts hoth hLd hgu hdeps
            have hgg2 := hgg
            obtain ⟨⟨n', hst, hna, hnb, hbt⟩, hg5, hg7⟩ := hgg2
            have HGG := Lib.hid hgg
            clear hgg
            have hlx := hst.lt
            have hszx := hbt.size
            have hz : i = 0 ∨ i = 1 ∨ i = 2 ∨ i = 3 ∨ i = 4 ∨ i = 5 ∨ i = 6 ∨ i = 7 ∨ i = 8 := by omega
            rcases hz with rfl | rfl | rfl | rfl | rfl | rfl | rfl | rfl | rfl
            · obtain rfl := Option.some.inj ho
              obtain rfl := Option.some.inj hd
              have e0 : a'.tmps.getD 0 undef = .pointer (some ⟨σ.b, 0, none⟩) := tmp_of ((hoth 0 (by decide)).trans rfl)
              clear hoth hdeps hdf hts ho hgu hLd hLi hg5 hg7
              refine wp_via (fun K' hK => ?_)
              have HK := Lib.hid hK
              clear hK
              go_simp
              refine HK.out _ _ ⟨_, rfl, ?_, ?_, ?_⟩
              · exact HGG.out.step 0 72 _ _ hlA hta (fun _ => Kept.refl _ _) ⟨n', hst, hna, by omega, hbt⟩ (fun _ h => absurd h (by decide)) (fun _ h => absurd h (by decide)) (fun h => absurd h (by decide)) (fun h => absurd h (by decide))
              · exact fun _ => Kept.refl _ _
              · exact rfl
            · obtain rfl := Option.some.inj ho
              obtain rfl := Option.some.inj hd
              have e0 : a'.tmps.getD 72 undef = .pointer (some ⟨σ.b, 0, none⟩) := hdeps 0 (by decide) 72 rfl (fun h => by cases h)
              clear hoth hdeps hdf hts ho hgu hLd hLi hg5 hg7
              refine wp_via (fun K' hK => ?_)
              have HK := Lib.hid hK
              clear hK
              go_simp
              refine (flip_any σ n' 40 _ hst (by omega) (by omega) (by omega)).mono ?_
              rintro e w7 ⟨v, n7, rfl, ⟨r, rfl⟩, hA7, hB7, hs7, hb7⟩
              refine HK.out _ _ ⟨_, rfl, ?_, ?_, ?_⟩
              · exact HGG.out.step 1 73 _ _ hlA hta (fun _ => hb7) ⟨n7, hs7, by omega, by omega, hbt.trans hb7⟩ (fun _ h => absurd h (by decide)) (fun _ h => absurd h (by decide)) (fun h => absurd h (by decide)) (fun h => absurd h (by decide))
              · exact fun _ => hb7
              · exact ⟨r, rfl⟩
            · obtain rfl := Option.some.inj ho
              obtain rfl := Option.some.inj hd
              obtain ⟨r, e0⟩ : QBool (a'.tmps.getD 73 undef) wx := hdeps 1 (by decide) 73 rfl (fun h => by cases h)
              clear hoth hdeps hdf hts ho hgu hLd hLi hg5 hg7
              refine wp_via (fun K' hK => ?_)
              have HK := Lib.hid hK
              clear hK
              go_simp
              refine HK.out _ _ ⟨_, rfl, ?_, ?_, ?_⟩
              · exact HGG.out.step 2 74 _ _ hlA hta (fun _ => Kept.refl _ _) ⟨n', hst, hna, by omega, hbt⟩ (fun _ h => absurd h (by decide)) (fun _ h => absurd h (by decide)) (fun h => absurd h (by decide)) (fun h => absurd h (by decide))
              · exact fun _ => Kept.refl _ _
              · exact ⟨r, rfl⟩
            · obtain rfl := Option.some.inj ho
              obtain rfl := Option.some.inj hd
              obtain ⟨g0, g1, g2, g3⟩ := HCC.out wx hbt
              have e0 : a'.tmps.getD 4 undef = .pointer (some ⟨bb, 0, none⟩) := tmp_of ((hoth 4 (by decide)).trans rfl)
              clear hoth hdeps hdf hts ho hgu hLd hLi hg5 hg7
              refine wp_via (fun K' hK => ?_)
              have HK := Lib.hid hK
              clear hK
              go_simp
              refine HK.out _ _ ⟨_, rfl, ?_, ?_, ?_⟩
              · exact HGG.out.step 3 75 _ _ hlA hta (fun _ => Kept.refl _ _) ⟨n', hst, hna, by omega, hbt⟩ (fun _ h => absurd h (by decide)) (fun _ h => absurd h (by decide)) (fun h => absurd h (by decide)) (fun h => absurd h (by decide))
              · exact fun _ => Kept.refl _ _
              · exact rfl
            · obtain rfl := Option.some.inj ho
              obtain rfl := Option.some.inj hd
              have e0 : a'.tmps.getD 7 undef = .slice av m cv := tmp_of ((hoth 7 (by decide)).trans rfl)
              clear hoth hdeps hdf hts ho hgu hLd hLi hg5 hg7
              refine wp_via (fun K' hK => ?_)
              have HK := Lib.hid hK
              clear hK
              go_simp
              refine HK.out _ _ ⟨_, rfl, ?_, ?_, ?_⟩
              · exact HGG.out.step 4 76 _ _ hlA hta (fun _ => Kept.refl _ _) ⟨n', hst, hna, by omega, hbt⟩ (fun _ h => absurd h (by decide)) (fun _ h => absurd h (by decide)) (fun h => absurd h (by decide)) (fun h => absurd h (by decide))
              · exact fun _ => Kept.refl _ _
              · exact rfl
            · obtain rfl := Option.some.inj ho
              obtain rfl := Option.some.inj hd
              have e0 : a'.tmps.getD 76 undef = .slice av m cv := hdeps 4 (by decide) 76 rfl (fun _ => hgu rfl)
              clear hoth hdeps hdf hts ho hgu hLd hLi hg5 hg7
              refine wp_via (fun K' hK => ?_)
              have HK := Lib.hid hK
              clear hK
              go_simp
              refine (HCL.out wx hbt).mono ?_
              rintro e w7 ⟨p, c, rfl, hac, hw7⟩
              refine HK.out _ _ ⟨_, rfl, ?_, ?_, ?_⟩
              · exact HGG.out.step 5 77 _ _ hlA hta (fun _ => (Kept.all hw7)) ⟨n', hst.keep hw7, hna, by omega, hbt.trans (Kept.all hw7)⟩ (fun _ _ => Or.inr ⟨p, c, rfl, hac.base0 hszx⟩) (fun _ h => absurd h (by decide)) (fun _ => rfl) (fun h => absurd h (by decide))
              · exact fun _ => (Kept.all hw7)
              · exact ⟨p, c, rfl⟩
            · obtain rfl := Option.some.inj ho
              obtain rfl := Option.some.inj hd
              have hpx := HPK.out wx hbt
              have g0 := cell_at (i := 0) hpx rfl
              have g1 := cell_at (i := 1) hpx rfl
              have g2 := cell_at (i := 2) hpx rfl
              have g3 := cell_at (i := 3) hpx rfl
              have g4 := cell_at (i := 4) hpx rfl
              have g5 := cell_at (i := 5) hpx rfl
              clear hpx
              have e0 : a'.tmps.getD 9 undef = .pointer (some ⟨pb, 0, none⟩) := tmp_of ((hoth 9 (by decide)).trans rfl)
              clear hoth hdeps hdf hts ho hgu hLd hLi hg5 hg7
              refine wp_via (fun K' hK => ?_)
              have HK := Lib.hid hK
              clear hK
              go_simp
              refine HK.out _ _ ⟨_, rfl, ?_, ?_, ?_⟩
              · exact HGG.out.step 6 78 _ _ hlA hta (fun _ => Kept.refl _ _) ⟨n', hst, hna, by omega, hbt⟩ (fun _ h => absurd h (by decide)) (fun _ h => absurd h (by decide)) (fun h => absurd h (by decide)) (fun h => absurd h (by decide))
              · exact fun _ => Kept.refl _ _
              · exact rfl
            · obtain rfl := Option.some.inj ho
              obtain rfl := Option.some.inj hd
              have e0 : a'.tmps.getD 78 undef = .agg #[.int .i64 y.no, .int .i64 y.tm, .string y.paper, .string y.person, .int .i64 y.ans, .string y.words] := hdeps 6 (by decide) 78 rfl (fun _ => hgu rfl)
              have e0' : a'.tmps[78]?.getD undef = .agg #[.int .i64 y.no, .int .i64 y.tm, .string y.paper, .string y.person, .int .i64 y.ans, .string y.words] := by rw [← Array.getD_eq_getD_getElem?]; exact e0
              clear hoth hdeps hdf hts ho hgu hLd hLi hg5 hg7
              refine wp_via (fun K' hK => ?_)
              have HK := Lib.hid hK
              clear hK
              go_simp
              have hne : wx.heap.size ≠ σ.b := by omega
              have hrow : QRowB σ.b #[.int .i64 y.no, .int .i64 y.tm, .string y.paper, .string y.person, .int .i64 y.ans, .string y.words] 58 (.slice (some ⟨wx.heap.size, 0, none⟩) 1 1) (wx.alloc (.cells #[.int .i64 y.no, .int .i64 y.tm, .string y.paper, .string y.person, .int .i64 y.ans, .string y.words] 58)) := ⟨wx.heap.size, rfl, hne, heap_at _ _ _ rfl⟩
              refine HK.out _ _ ⟨_, rfl, ?_, ?_, ?_⟩
              · exact HGG.out.step 7 79 _ (wx.alloc (.cells #[.int .i64 y.no, .int .i64 y.tm, .string y.paper, .string y.person, .int .i64 y.ans, .string y.words] 58)) hlA hta (fun _ => (Kept.alloc _ _ _)) ⟨n', hst.keep (Kept.alloc _ _ _), hna, by omega, hbt.then_alloc _⟩ (fun _ h => absurd h (by decide)) (fun _ _ => Or.inr hrow) (fun h => absurd h (by decide)) (fun _ => rfl)
              · exact fun _ => (Kept.alloc _ _ _)
              · exact ⟨_, rfl⟩
            · obtain rfl := Option.some.inj ho
              obtain rfl := Option.some.inj hd
              obtain ⟨p5, c5, e77⟩ : QHdr xs.length (a'.tmps.getD 77 undef) wx := hdeps 5 (by decide) 77 rfl (fun _ => hgu rfl)
              obtain ⟨b9, e79⟩ : QHd1 (a'.tmps.getD 79 undef) wx := hdeps 7 (by decide) 79 rfl (fun _ => hgu rfl)
              have d5 := hg5 hLi (hLd 5 (by decide))
              have d7 := hg7 hLi (hLd 7 (by decide))
              rw [e77] at d5
              rw [e79] at d7
              clear hg5 hg7 hoth hdeps hdf hts ho hgu hLd hLi
              obtain ⟨p6, c6, q6, hac⟩ := d5.resolve_left (fun h => by cases h)
              injection q6 with q1 q2 q3
              subst q1 q3
              obtain ⟨b8, q7, hb9n, hb9⟩ := d7.resolve_left (fun h => by cases h)
              injection q7 with q1 _ _
              injection q1 with q1
              injection q1 with q1 _ _
              subst q1
              clear q2
              refine wp_via (fun K' hK => ?_)
              have HK := Lib.hid hK
              clear hK
              refine op_append1 RPost.ok wx _ _ _ rfl wA.heap.size 58 (.agg #[.int .i64 0, .int .i64 0, .string ⟨#[]⟩, .string ⟨#[]⟩, .int .i64 0, .string ⟨#[]⟩]) 6 72 Tryz.underlying52 (by kernel_rfl) rfl (by decide) (fun _ => False) _ xs e77 hac ⟨b9, 0, none⟩ 1 [.int .i64 y.no, .int .i64 y.tm, .string y.paper, .string y.person, .int .i64 y.ans, .string y.words] e79 rfl (World.news_of_block hb9) (by simp [Value.oneCell']) y ⟨rfl, hysm⟩ (by have := HM.out; have := HMB.out; omega) (by decide) hszx ?_
              intro p8 c8 w9 hac9 hg9 _
              have hk9 : Kept (fun k => k < wA.heap.size) wx w9 := (Kept.refl _ _).grown hg9 (fun k hk => Or.inr (by have := (hac.lt k hk).1; omega))
              have hb9' : But σ.b wA w9 := hbt.trans2 hk9 (fun i hi _ => hi)
              have hs9 := hst.kept hk9 (fun k hk => by omega)
              refine HK.out _ _ ⟨_, rfl, ?_, ?_, ?_⟩
              · exact HGG.out.step 8 80 _ w9 hlA hta (fun h => absurd rfl h) ⟨n', hs9, hna, by omega, hb9'⟩ (fun h => absurd rfl h) (fun h => absurd rfl h) (fun h => absurd h (by decide)) (fun h => absurd h (by decide))
              · exact fun h => absurd rfl h
              · exact ⟨p8, c8, by simp, by simpa using hac9⟩
          · intro wx f hgg hd
            obtain ⟨a', L, ⟨n', hst, hna, hnb, hbt⟩, -, -⟩ := hgg
            obtain ⟨r, e74⟩ : QBool (f 74) wx := hd 2 74 (by decide) rfl (fun h => by cases h)
            have h75 := hd 3 75 (by decide) rfl
            have h80 := hd 8 80 (by decide) rfl
            have hng : n' ≤ n4 + 10 := by omega
            cases r with
            | true =>
              clear hd h75 h80
              refine ⟨?_⟩
              rw [show dsts _ 9 = [72, 73, 74, 75, 76, 77, 78, 79, 80] from by kernel_rfl]
              simp only [List.map_cons, List.map_nil, puts, Act.put, e74, List.drop_succ_cons, List.drop_zero]
              generalize f 72 = f72
              generalize f 73 = f73
              generalize f 75 = f75
              generalize f 76 = f76
              generalize f 77 = f77
              generalize f 78 = f78
              generalize f 79 = f79
              generalize f 80 = f80
              go_simp
              go_wp2_with fail
              go_meet
              exact ⟨⟨_, rfl⟩, n', hst, hna, hng, hbt⟩
            | false =>
              have e75 : f 75 = .agg #[.slice a0 l0 c0, .slice a1 l1 c1, .slice a2 l2 c2, .slice a3 l3 c3] := h75 (fun _ => e74)
              obtain ⟨p8, c8, e80, hac9⟩ : QAcc RPost 6 58 wA.heap.size (xs ++ [y]) (f 80) wx := h80 (fun _ => e74)
              rw [List.length_append, ← HM.out] at e80 hac9
              simp only [List.length_cons, List.length_nil, Nat.zero_add] at e80 hac9
              have hmb := HMB.out
              clear hd h75 h80
              refine ⟨?_⟩
              rw [show dsts _ 9 = [72, 73, 74, 75, 76, 77, 78, 79, 80] from by kernel_rfl]
              simp only [List.map_cons, List.map_nil, puts, Act.put, e74, e75, e80, List.drop_succ_cons, List.drop_zero]
              clear e75 e80 e74
              generalize f 72 = f72
              generalize f 73 = f73
              generalize f 76 = f76
              generalize f 77 = f77
              generalize f 78 = f78
              generalize f 79 = f79
              go_simp
              obtain ⟨p8', c8', hv8, sl9⟩ := hac9.sl RPost.ok (by decide) (G := fun _ => True) (fun _ h => h.elim) (fun _ _ => trivial)
              obtain ⟨p8'', c8'', hv8b, hc8⟩ := hac9.form
              rw [List.length_append, ← HM.out] at hv8 sl9 hv8b hc8
              simp only [List.length_cons, List.length_nil, Nat.zero_add] at hv8 sl9 hv8b hc8
              injection hv8 with q1 q2 q3
              injection hv8b with q4 q5 q6
              subst q1 q3 q6
              clear q2 q4 q5
              have HPX := Lib.hid (HPF.out wx hbt p8 c8 (xs ++ [y]) (by simp [← HM.out]) sl9 hc8)
              clear hac9 sl9 hc8
              go_wp2_with fail
              refine HPX.out.mono ?_
              rintro e w10 ⟨rfl, hw10⟩
              obtain ⟨ep, hep⟩ : ∃ ep, ep = postsF b (xs ++ [y]) := ⟨_, rfl⟩
              rw [← hep]
              clear hep
              go_wp2_with fail
              go_meet
              exact ⟨⟨_, rfl⟩, n', hst.keep hw10, hna, hng, hbt.trans (Kept.all hw10)⟩
        case rest =>
          obtain ⟨⟨r, rfl⟩, n5, hs5, hnE, hnF, hb5⟩ := hcut
          obtain ⟨wB, rfl⟩ : ∃ q : World, q = wc := ⟨_, rfl⟩
          have hwB := hwA.trans hb5
          have acB := acA.keep RPost.ok hb5 (fun _ h => h.elim) (fun k hk => by have := (acA.lt k hk).1; have := hsA.lt; omega)
          have bkB := hb5.heap bkA hps
          clear hsA acA bkA hb5 hwA
          cases r with
          | false =>
            go_wp2_with fail
            go_roundw
            case rel => exact ⟨k + 1, by omega, by go_num, xs, n5, tm + d1, by go_num, by omega, by have := HM.out; omega, acB, hs5, by omega, by omega, hwB⟩
            case measure => simp [intOf]; omega
          | true =>
            have g0 := cell_at (i := 0) bkB rfl
            have g1 := cell_at (i := 1) bkB rfl
            have g2 := cell_at (i := 2) bkB rfl
            have g3 := cell_at (i := 3) bkB rfl
            have g4 := cell_at (i := 4) bkB rfl
            have g5 := cell_at (i := 5) bkB rfl
            have hkr := Lib.hid (fun k (hk : (Value.slice av m cv).ownBlock = some k) => (acB.lt k hk).1)
            have hszl := hwB.size
            clear bkB
            go_wp2_with (at_builtin; refine wp_append1 RPost.ok _ rfl _ _ 52 rfl wq.heap.size 58 (.agg #[.int .i64 0, .int .i64 0, .string ⟨#[]⟩, .string ⟨#[]⟩, .int .i64 0, .string ⟨#[]⟩]) 6 72 Tryz.underlying52 (by kernel_rfl) rfl (by decide) (fun _ => False) _ xs rfl (acB.keepAll RPost.ok (Kept.alloc _ _ _)) ⟨_, 0, none⟩ 1 [.int .i64 y.no, .int .i64 y.tm, .string y.paper, .string y.person, .int .i64 y.ans, .string y.words] rfl rfl (World.news_of_block (cs := #[.int .i64 y.no, .int .i64 y.tm, .string y.paper, .string y.person, .int .i64 y.ans, .string y.words]) (heap_at _ _ _ (by simp))) (by simp [Value.oneCell']) y ⟨rfl, hysm⟩ (by have := HM.out; omega) (by decide) (by simp; omega) ?_)
            intro p8 c8 w9 hac9 hgrow _
            have hk9 : Kept (fun k => (Value.slice av m cv).ownBlock ≠ some k) wB w9 := (Kept.grown (Kept.alloc _ _ _) hgrow (fun k hk => Or.inr (fun h => h hk)))
            have hw9 : But σ.b wq w9 := hwB.trans2 hk9 (fun i hi _ e => by have := hkr.out i e; omega)
            have hs9 := hs5.kept hk9 (fun k hk e => by have := hkr.out k e; omega)
            clear hgrow hk9 acB hs5 hwB g0 g1 g2 g3 g4 g5
            go_wp2_with fail
            go_roundw
            case rel => exact ⟨k + 1, by omega, by go_num, xs ++ [y], n5, tm + d1, by go_num, by omega, by have := HM.out; simp; omega, hac9, hs9, by omega, by omega, hw9⟩
            case measure => simp [intOf]; omega
    · have hdk : decide ((k : Int) < (M : Int)) = false := by simp; omega
      have hwf := Lib.hid (HK1.out.trans hw0)
      have hac := Lib.hid (ac0.base0 hsq)
      go_wp2_with fail
      go_ret
      exact ⟨_, n0, rfl, ⟨xs, by have := HM.out; omega, hac.out⟩, by omega, by omega, hs0, hwf.out⟩
end Go.Proofs.YtllkemadaemjeaaGreatDoor
