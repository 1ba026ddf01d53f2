/- Replies: how they lie in memory; what CheckReplies finds; which of them count. No program in sight. -/
import Derived.Test.YtllkemadaemjeaaGreatDoorBa
import Derived.Test.YtllkemadaemjeaaGreatDoorDb
import Derived.Test.YtllkemadaemjeaaGreatDoorYa
import Derived.Test.YtllkemadaemjeaaGreatDoorRb
import Derived.Test.YtllkemadaemjeaaGreatDoorZc
import Derived.Test.YtllkemadaemjeaaGreatDoorSr
import Derived.Lib.Repeat
namespace Go.Proofs.YtllkemadaemjeaaGreatDoor
open Go.RowKit

/-- A reply. -/
structure Rep3 where
  paper : ByteArray
  tm : Int
  words : ByteArray
instance : Inhabited Rep3 := ⟨⟨ByteArray.empty, 0, ByteArray.empty⟩⟩
def encRep (x : Rep3) : List Value := [.string x.paper, .int .i64 x.tm, .string x.words]
def RepSmall (x : Rep3) : Prop := x.paper.size ≤ 1000000 ∧ x.words.size ≤ 1000000
def RReply : Rel Rep3 := fun _ _ vs x => vs = encRep x ∧ RepSmall x
theorem RReply.ok : RReply.Ok := ⟨fun _ h => h, fun _ h => h, fun h => h⟩
theorem flatReply : Flat RReply encRep RepSmall 3 :=
  ⟨fun _ _ _ _ => Iff.rfl, fun _ => rfl, by decide, fun x u hu => by simp [encRep] at hu; rcases hu with rfl | rfl | rfl <;> rfl⟩
theorem Sl.atReply {F : Nat → Prop} {w : World} {a : Option Addr} {len : Nat} {xs : List Rep3} (h : Sl RReply 3 F w a len xs) {k : Nat} (hk : k < len) :
    ∃ b off x, a = some ⟨b, off, none⟩ ∧ F b ∧ w.cell? ⟨b, off + k * 3, none⟩ = some (.string x.paper) ∧ w.cell? ⟨b, off + k * 3 + 1, none⟩ = some (.int .i64 x.tm) ∧ w.cell? ⟨b, off + k * 3 + 2, none⟩ = some (.string x.words) ∧
      RepSmall x ∧ xs[k]? = some x ∧ xs = xs.take k ++ x :: xs.drop (k + 1) ∧ xs.take (k + 1) = xs.take k ++ [x] := by
  obtain ⟨b, off, vs, x, ha, hF, h1, h2, ⟨rfl, hsm⟩, h4, h5, h6⟩ := h.at hk
  exact ⟨b, off, x, ha, hF, h2 0 (by simp [encRep]), h2 1 (by simp [encRep]), h2 2 (by simp [encRep]), hsm, h4, h5, h6⟩

noncomputable def repF (x : Rep3) : Int :=
  if isKeyB x.paper = false then 5 else if x.tm < 0 ∨ 5761440 ≤ x.tm then 1 else if x.words.size = 0 then 3 else if isTextB x.words = false then 3 else if 6000 < x.words.size then 2 else 0
noncomputable def repsG : List Rep3 → Int
  | [] => 0
  | x :: l => if repF x ≠ 0 then repF x else repsG l
noncomputable def repsF (l : List Rep3) : Int := if 2000 < l.length then 2 else repsG l
theorem repsG_cons (x : Rep3) (l : List Rep3) : repsG (x :: l) = if repF x ≠ 0 then repF x else repsG l := rfl
/-- The walk over replies up to place k has found nothing. -/
def RepsAt (xs : List Rep3) (k : Nat) : Prop := repsG xs = repsG (xs.drop k)
section
variable {xs : List Rep3} {k : Nat} {x : Rep3}
theorem RepsAt.zero (xs : List Rep3) : RepsAt xs 0 := by simp [RepsAt]
theorem RepsAt.bad {e : Int} (h : RepsAt xs k) (hx : xs[k]? = some x) (hf : repF x = e) (he : e ≠ 0) : repsG xs = e := by
  rw [h, drop_at hx, repsG_cons, hf, if_pos he]
theorem RepsAt.next (h : RepsAt xs k) (hx : xs[k]? = some x) (hf : repF x = 0) : RepsAt xs (k + 1) := by
  unfold RepsAt at *
  rw [h, drop_at hx, repsG_cons, hf, if_neg (by simp)]
theorem RepsAt.ok (h : RepsAt xs k) (hk : xs.length ≤ k) : repsG xs = 0 := by
  rw [h, List.drop_of_length_le hk]; rfl
theorem repF_name (h1 : isKeyB x.paper = false) : repF x = 5 := by rw [repF, if_pos h1]
theorem repF_arg (h1 : isKeyB x.paper = true) (h2 : x.tm < 0 ∨ 5761440 ≤ x.tm) : repF x = 1 := by rw [repF, if_neg (by simp [h1]), if_pos h2]
theorem repF_none (h1 : isKeyB x.paper = true) (h2 : ¬ (x.tm < 0 ∨ 5761440 ≤ x.tm)) (h3 : x.words.size = 0) : repF x = 3 := by rw [repF, if_neg (by simp [h1]), if_neg h2, if_pos h3]
theorem repF_form (h1 : isKeyB x.paper = true) (h2 : ¬ (x.tm < 0 ∨ 5761440 ≤ x.tm)) (h3 : ¬ x.words.size = 0) (h4 : isTextB x.words = false) : repF x = 3 := by rw [repF, if_neg (by simp [h1]), if_neg h2, if_neg h3, if_pos h4]
theorem repF_large (h1 : isKeyB x.paper = true) (h2 : ¬ (x.tm < 0 ∨ 5761440 ≤ x.tm)) (h3 : ¬ x.words.size = 0) (h4 : isTextB x.words = true) (h5 : 6000 < x.words.size) : repF x = 2 := by rw [repF, if_neg (by simp [h1]), if_neg h2, if_neg h3, if_neg (by simp [h4]), if_pos h5]
theorem repF_ok (h1 : isKeyB x.paper = true) (h2 : ¬ (x.tm < 0 ∨ 5761440 ≤ x.tm)) (h3 : ¬ x.words.size = 0) (h4 : isTextB x.words = true) (h5 : ¬ 6000 < x.words.size) : repF x = 0 := by rw [repF, if_neg (by simp [h1]), if_neg h2, if_neg h3, if_neg (by simp [h4]), if_neg h5]
end
theorem repsF_large {xs : List Rep3} (h : 2000 < xs.length) : repsF xs = 2 := by rw [repsF, if_pos h]
theorem repsF_some {xs : List Rep3} (h : ¬ 2000 < xs.length) : repsF xs = repsG xs := by rw [repsF, if_neg h]

/-- Rules of replies. -/
structure RR where
  fr : Int
  til : Int
  most : Int
abbrev RR.val (r : RR) : Value := .agg #[.int .i64 r.fr, .int .i64 r.til, .int .i64 r.most]
def rrF (r : RR) : Int := if r.fr < 0 ∨ r.til < r.fr then 1 else if 5761440 < r.til then 1 else if r.most < 0 ∨ 6000 < r.most then 1 else 0

/-- Strings in order. -/
def ltB (a b : ByteArray) : Bool := Op.bytesLess a.toList b.toList
theorem ltB_irrefl (a : ByteArray) : ltB a a = false := bl_irrefl _
theorem ltB_trans {a b c : ByteArray} (h1 : ltB a b = true) (h2 : ltB b c = true) : ltB a c = true := bl_trans h1 h2
theorem ltB_total {a b : ByteArray} (h1 : ltB a b = false) (h2 : ltB b a = false) : a = b := by
  by_cases h : a.toList = b.toList
  · exact bytes_ext h
  · have := bl_total h1 h
    rw [ltB, this] at h2
    cases h2

/-- x is the greater one of two replies. -/
def betterB (x y : Rep3) : Bool := decide (y.tm < x.tm) || (decide (x.tm = y.tm) && ltB y.words x.words)
theorem betterB_irrefl (x : Rep3) : betterB x x = false := by simp [betterB, ltB_irrefl]
theorem betterB_trans {x y z : Rep3} (h1 : betterB x y = true) (h2 : betterB y z = true) : betterB x z = true := by
  simp only [betterB, Bool.or_eq_true, decide_eq_true_eq, Bool.and_eq_true] at *
  rcases h1 with h1 | ⟨h1, h1'⟩
  · rcases h2 with h2 | ⟨h2, -⟩
    · exact Or.inl (by omega)
    · exact Or.inl (by omega)
  · rcases h2 with h2 | ⟨h2, h2'⟩
    · exact Or.inl (by omega)
    · exact Or.inr ⟨by omega, ltB_trans h2' h1'⟩
theorem betterB_total {x y : Rep3} (h1 : betterB x y = false) (h2 : betterB y x = false) (hp : x.paper = y.paper) : x = y := by
  simp only [betterB, Bool.or_eq_false_iff, decide_eq_false_iff_not, Bool.and_eq_false_iff] at *
  have ht : x.tm = y.tm := by omega
  have hw : x.words = y.words := by
    refine (ltB_total (h1.2.resolve_left (by simp [ht])) (h2.2.resolve_left (by simp [ht]))).symm
  cases x; cases y; simp_all

/-- Whether a reply comes in time, and is short enough. -/
def timelyB (r : RR) (x : Rep3) : Bool := decide (r.fr ≤ x.tm) && decide (x.tm < r.til) && decide ((x.words.size : Int) ≤ r.most)
/-- The best one of the replies of a paper. -/
def bestStep (p : ByteArray) (o : Option Rep3) (x : Rep3) : Option Rep3 := if x.paper = p then (match o with | none => some x | some y => if betterB x y = true then some x else some y) else o
def bestR (ts : List Rep3) (p : ByteArray) : Option Rep3 := ts.foldl (bestStep p) none
theorem bestR_snoc (ts : List Rep3) (x : Rep3) (p : ByteArray) : bestR (ts ++ [x]) p = bestStep p (bestR ts p) x := by simp [bestR]
theorem list_snoc_ind {α : Type} {P : List α → Prop} (h0 : P []) (h1 : ∀ l x, P l → P (l ++ [x])) (l : List α) : P l := by
  have : ∀ m : List α, P m.reverse := fun m => by
    induction m with
    | nil => exact h0
    | cons x m ih => rw [List.reverse_cons]; exact h1 _ _ ih
  simpa using this l.reverse
theorem bestR_none {ts : List Rep3} {p : ByteArray} : bestR ts p = none ↔ ∀ x ∈ ts, x.paper ≠ p := by
  refine list_snoc_ind (P := fun ts => bestR ts p = none ↔ ∀ x ∈ ts, x.paper ≠ p) (by simp [bestR]) (fun l x ih => ?_) ts
  rw [bestR_snoc]
  unfold bestStep
  by_cases h : x.paper = p
  · rw [if_pos h]
    constructor
    · intro h2
      cases ho : bestR l p <;> rw [ho] at h2
      · cases h2
      · simp only at h2; split at h2 <;> cases h2
    · intro h2
      exact absurd h (h2 x (by simp))
  · rw [if_neg h, ih]
    constructor
    · intro h2 y hy
      simp only [List.mem_append, List.mem_cons, List.not_mem_nil, or_false] at hy
      rcases hy with hy | rfl
      · exact h2 y hy
      · exact h
    · intro h2 y hy
      exact h2 y (by simp [hy])
theorem bestR_some {ts : List Rep3} {p : ByteArray} {b : Rep3} (h : bestR ts p = some b) : b ∈ ts ∧ b.paper = p ∧ ∀ y ∈ ts, y.paper = p → betterB y b = false := by
  revert b
  refine list_snoc_ind (P := fun ts => ∀ {b : Rep3}, bestR ts p = some b → b ∈ ts ∧ b.paper = p ∧ ∀ y ∈ ts, y.paper = p → betterB y b = false) (fun {b} h => by simp [bestR] at h) (fun l x ih {b} h => ?_) ts
  rw [bestR_snoc] at h
  unfold bestStep at h
  by_cases hp : x.paper = p
  · rw [if_pos hp] at h
    cases ho : bestR l p with
    | none =>
      rw [ho] at h
      simp only [Option.some.injEq] at h
      subst h
      refine ⟨by simp, hp, fun y hy hyp => ?_⟩
      simp only [List.mem_append, List.mem_cons, List.not_mem_nil, or_false] at hy
      rcases hy with hy | rfl
      · exact absurd hyp (bestR_none.1 ho y hy)
      · exact betterB_irrefl _
    | some c =>
      rw [ho] at h
      obtain ⟨h1, h2, h3⟩ := ih ho
      simp only at h
      split at h
      · rename_i hb
        simp only [Option.some.injEq] at h
        subst h
        refine ⟨by simp, hp, fun y hy hyp => ?_⟩
        simp only [List.mem_append, List.mem_cons, List.not_mem_nil, or_false] at hy
        rcases hy with hy | rfl
        · cases hyx : betterB y x with
          | false => rfl
          | true =>
            have := betterB_trans hyx hb
            rw [h3 y hy hyp] at this
            cases this
        · exact betterB_irrefl _
      · rename_i hb
        simp only [Option.some.injEq] at h
        subst h
        refine ⟨by simp [h1], h2, fun y hy hyp => ?_⟩
        simp only [List.mem_append, List.mem_cons, List.not_mem_nil, or_false] at hy
        rcases hy with hy | rfl
        · exact h3 y hy hyp
        · simpa using hb
  · rw [if_neg hp] at h
    obtain ⟨h1, h2, h3⟩ := ih h
    refine ⟨by simp [h1], h2, fun y hy hyp => ?_⟩
    simp only [List.mem_append, List.mem_cons, List.not_mem_nil, or_false] at hy
    rcases hy with hy | rfl
    · exact h3 y hy hyp
    · exact absurd hyp hp
/-- The greatest one of each paper's replies, the papers rising. -/
def IsCounted (ts L : List Rep3) : Prop := L.Pairwise (fun x y => ltB x.paper y.paper = true) ∧ ∀ x, x ∈ L ↔ bestR ts x.paper = some x
theorem IsCounted.uniq {ts L M : List Rep3} (h1 : IsCounted ts L) (h2 : IsCounted ts M) : L = M :=
  rise_ext (lt := fun x y : Rep3 => ltB x.paper y.paper = true) (fun a h => by rw [ltB_irrefl] at h; cases h) (fun h1 h2 => ltB_trans h1 h2) h1.1 h2.1 (fun x => by rw [h1.2 x, h2.2 x])
/-- What no other one of its paper surpasses. -/
def topB (ts : List Rep3) (x : Rep3) : Bool := !ts.any fun y => decide (y.paper = x.paper) && betterB y x
theorem topB_iff {ts : List Rep3} {x : Rep3} (hx : x ∈ ts) : topB ts x = true ↔ bestR ts x.paper = some x := by
  have e : topB ts x = true ↔ ∀ y ∈ ts, y.paper = x.paper → betterB y x = false := by
    unfold topB
    simp only [Bool.not_eq_true', List.any_eq_false, Bool.and_eq_true, decide_eq_true_eq, not_and, Bool.not_eq_true]
  rw [e]
  constructor
  · intro h
    cases hb : bestR ts x.paper with
    | none => exact absurd rfl (bestR_none.1 hb x hx)
    | some b =>
      obtain ⟨h1, h2, h3⟩ := bestR_some hb
      rw [betterB_total (h3 x hx rfl) (h b h1 h2) h2.symm]
  · intro h
    exact (bestR_some h).2.2
end Go.Proofs.YtllkemadaemjeaaGreatDoor

/- The generators ReplyRules and RepliesOf. -/
namespace Go.Proofs.YtllkemadaemjeaaGreatDoor
open Go.RowKit

/-- A string is put behind another one. -/
theorem catR_run (P : Program) (a b : ByteArray) (h : a.size + b.size ≤ 9223372036854775807) : ∃ t : ByteArray, t = a ++ b ∧ t.size = a.size + b.size ∧ ∀ wx : World, (Op.stringOp .add a b).run P wx = .ok (.string t) wx :=
  ⟨_, rfl, ByteArray.size_append, fun wx => run_string_add_sum wx a b h⟩
theorem repeat_any (s : ByteArray) (c : Nat) (w : World) (hc : s.size * c ≤ 1000000) (hc2 : c ≤ 1000000) :
    Calls Tryz.prog 67 #[.string s, .int .i64 c] w fun e w' => ∃ t : ByteArray, e = .returned (.string t) ∧ t.size = c * s.size ∧ All w w' := by
  refine (Tryz.strings_Repeat s c w (by omega) (by omega)).mono ?_
  rintro e w' ⟨rfl, hb⟩
  refine ⟨_, rfl, ?_, Kept.of_below hb⟩
  have h := Lib.repeatL_length s.data.toList c
  have h2 : s.data.toList.length = s.size := by rw [Array.length_toList]; rfl
  show (Lib.repeatL s.data.toList c).toArray.size = _
  rw [List.size_toArray, h, h2]

def IsRules (v : Value) (_ : World) : Prop := ∃ r : RR, v = r.val
set_option maxRecDepth 100000 in
set_option maxHeartbeats 1600000 in
theorem replyRules_any (σ : St) (n : Nat) (w : World) (hs : Str σ w n) (hn : n ≤ 4611686018427200000) :
    Calls Tryz.prog 30 #[.pointer (some ⟨σ.b, 0, none⟩)] w (StPost σ n 3 w IsRules) := by
  have hlt := hs.lt
  have hw0 : But σ.b w (w.alloc (.cells #[.int .i64 0, .int .i64 0, .int .i64 0] 66)) := Kept.alloc _ _ _
  have hs0 := hs.keep (Kept.alloc (fun _ => True) w (.cells #[.int .i64 0, .int .i64 0, .int .i64 0] 66))
  have bk0 := heap_at w (.cells #[.int .i64 0, .int .i64 0, .int .i64 0] 66) _ rfl
  obtain ⟨n0, hn0⟩ : ∃ m, m = n := ⟨_, rfl⟩
  rw [← hn0] at hs0
  obtain ⟨bb, hbb⟩ : ∃ bb, bb = w.heap.size := ⟨_, rfl⟩
  have HBB := Lib.hid hbb
  rw [← hbb] at bk0
  have hbs : bb ≠ σ.b := by omega
  have hbw : w.heap.size ≤ bb := by omega
  have HS0 := Lib.hid (show bb + 1 = (w.alloc (.cells #[.int .i64 0, .int .i64 0, .int .i64 0] 66)).heap.size by simp; omega)
  clear hs hbb
  go_enter Tryz.func30, Tryz.ntmps30
  go_wp2_with fail
  simp only [← HBB.out]
  generalize w.alloc (.cells #[.int .i64 0, .int .i64 0, .int .i64 0] 66) = w0 at *
  rw [HS0.out]
  refine (pick_any σ n0 _ 5 5 [0, 5, 5, -1, 200] _ (hs0.keep (Kept.alloc _ _ _)) (by omega) (Sl.lit_ints _ (heap_at w0 _ _ rfl) rfl (by have := hs0.lt; omega)) (by omega) (by omega)).mono ?_
  rintro e w1 ⟨v, n1, rfl, ⟨z1, rfl, hz1⟩, hA1, hB1, hs1, hb1⟩
  have hw1 := (hw0.then_alloc _).trans hb1
  have bk1 := hb1.heap (heap_old _ bk0) hbs
  clear hs0 hb1 hw0 bk0
  have hl1 := hs1.lt
  clear hz1
  go_wp2_with fail
  refine (pick_any σ n1 _ 5 5 [9, 10, 101, 5761440, 5761441] _ (hs1.keep (Kept.alloc _ _ _)) (by omega) (Sl.lit_ints _ (heap_at w1 _ _ rfl) rfl (by have := hs1.lt; omega)) (by omega) (by omega)).mono ?_
  rintro e w2 ⟨v, n2, rfl, ⟨z2, rfl, hz2⟩, hA2, hB2, hs2, hb2⟩
  have hw2 := (hw1.then_alloc _).trans hb2
  have bk2 := hb2.heap (heap_old _ bk1) hbs
  clear hs1 hb2 hw1 bk1
  have hl2 := hs2.lt
  clear hz2
  go_wp2_with fail
  refine (pick_any σ n2 _ 6 6 [0, 2, 6, 100, 6000, 6001] _ (hs2.keep (Kept.alloc _ _ _)) (by omega) (Sl.lit_ints _ (heap_at w2 _ _ rfl) rfl (by have := hs2.lt; omega)) (by omega) (by omega)).mono ?_
  rintro e w3 ⟨v, n3, rfl, ⟨z3, rfl, hz3⟩, hA3, hB3, hs3, hb3⟩
  have hw3 := (hw2.then_alloc _).trans hb3
  have bk3 := hb3.heap (heap_old _ bk2) hbs
  clear hs2 hb3 hw2 bk2
  have hl3 := hs3.lt
  clear hz3
  have q0 := cell_at (i := 0) bk3 rfl
  have q1 := cell_at (i := 1) bk3 rfl
  have q2 := cell_at (i := 2) bk3 rfl
  have f0 := frozen_at (i := 0) bk3
  have f1 := frozen_at (i := 1) bk3
  have f2 := frozen_at (i := 2) bk3
  have hfin := Lib.hid (⟨((hw3.then_setNew ⟨bb, 0, none⟩ (.int .i64 z1) hbw).then_setNew ⟨bb, 1, none⟩ (.int .i64 z2) hbw).then_setNew ⟨bb, 2, none⟩ (.int .i64 z3) hbw, ((hs3.set ⟨bb, 0, none⟩ (.int .i64 z1) (by dsimp only; omega)).set ⟨bb, 1, none⟩ (.int .i64 z2) (by dsimp only; omega)).set ⟨bb, 2, none⟩ (.int .i64 z3) (by dsimp only; omega)⟩ : _ ∧ _)
  have bkf := heap_setCell_at _ bb 2 (.int .i64 z3) _ _ _ (heap_setCell_at _ bb 1 (.int .i64 z2) _ _ _ (heap_setCell_at _ bb 0 (.int .i64 z1) _ _ _ bk3))
  simp only [List.setIfInBounds_toArray, List.set_cons_zero, List.set_cons_succ] at bkf
  have r0 := cell_at (i := 0) bkf rfl
  have r1 := cell_at (i := 1) bkf rfl
  have r2 := cell_at (i := 2) bkf rfl
  clear bk3 hs3 hw3 bkf
  go_wp2_with fail
  refine bodyPost_ret (v := .agg #[.int .i64 z1, .int .i64 z2, .int .i64 z3]) ?_ rfl ⟨_, n3, rfl, ⟨⟨z1, z2, z3⟩, rfl⟩, by omega, by omega, hfin.out.2, hfin.out.1⟩
  simp [results, Tryz.results30, go_sem, r0, r1, r2]

def IsReplies (B mx : Nat) (v : Value) (w : World) : Prop := ∃ xs : List Rep3, xs.length ≤ mx ∧ Acc RReply 3 79 (fun _ => False) B w v xs

set_option maxRecDepth 100000 in
set_option maxHeartbeats 6400000 in
theorem repliesOf_any (σ : St) (n : Nat) (w : World) (hs : Str σ w n) (hn : n ≤ 4611686018427200000) :
    Calls Tryz.prog 31 #[.pointer (some ⟨σ.b, 0, none⟩)] w (StPost σ n 100 w (IsReplies w.heap.size 7)) := by
  have hlt := hs.lt
  go_enter Tryz.func31, Tryz.ntmps31
  go_wp2_with fail
  refine (range_any σ n 0 7 _ hs (by omega) (by omega) (by omega) (by omega)).mono ?_
  rintro e wq ⟨v, m1, rfl, ⟨r1, rfl, hr1, hr2⟩, hm1, hm2, hsq, hwq⟩
  obtain ⟨M, rfl⟩ := Int.eq_ofNat_of_zero_le hr1
  have hsz1 := hwq.size
  clear hs
  have hlq := hsq.lt
  go_wp2_with fail
  go_loopw [3, 7] (fun o i wr => ∃ k : Nat, k ≤ M ∧ i = .int .i64 k ∧ ∃ (xs : List Rep3) (n' : Nat), xs.length ≤ k ∧ Acc RReply 3 79 (fun _ => False) wq.heap.size wr o xs ∧ Str σ wr n' ∧ m1 ≤ n' ∧ n' ≤ m1 + 12 * k ∧ But σ.b wq wr) (fun _ i _ => M - (intOf i).toNat)
  case atStart => exact ⟨0, Nat.zero_le _, rfl, [], m1, Nat.le_refl _, Acc.nil _ _ _ _ _ _, hsq, Nat.le_refl _, by omega, Kept.refl _ _⟩
  case round =>
    clear hsq
    obtain ⟨k, hk, rfl, xs, n0, hxl, ac0, hs0, hn1, hn2, hw0⟩ := hrel
    obtain ⟨w0, rfl⟩ : ∃ wo : World, wo = wr := ⟨_, rfl⟩
    obtain ⟨av, cv, rfl, hcv⟩ := ac0.form
    by_cases hlt2 : k < M
    · have hl0 := hs0.lt
      go_wp2_with fail
      refine (some10_any σ n0 _ 3 3 [⟨#[112, 97]⟩, ⟨#[112, 98]⟩, ⟨#[112, 99]⟩] _ (hs0.keep (Kept.alloc _ _ _)) (by omega) (Sl.lit_strs _ (heap_at w0 _ _ rfl) rfl (by have := hs0.lt; omega)) (by omega) (by omega)).mono ?_
      rintro e w1 ⟨v, n1, rfl, ⟨y1, rfl, -, hy1⟩, hA1, hB1, hs1, hb1⟩
      have hw1 := (hw0.then_alloc _).trans hb1
      have ac1 := (ac0.keepAll RReply.ok ((Kept.refl _ _).then_alloc _)).keep RReply.ok hb1 (fun _ h => h.elim) (fun k hk => by have := (ac0.lt k hk).1; omega)
      clear hs0 hb1 hw0 ac0
      have hl1 := hs1.lt
      go_wp2_with fail
      refine (pick_any σ n1 _ 5 5 [0, 5, 5, 9, 100] _ (hs1.keep (Kept.alloc _ _ _)) (by omega) (Sl.lit_ints _ (heap_at w1 _ _ rfl) rfl (by have := hs1.lt; omega)) (by omega) (by omega)).mono ?_
      rintro e w2 ⟨v, n2, rfl, ⟨z2, rfl, hz2⟩, hA2, hB2, hs2, hb2⟩
      have hw2 := (hw1.then_alloc _).trans hb2
      have ac2 := (ac1.keepAll RReply.ok ((Kept.refl _ _).then_alloc _)).keep RReply.ok hb2 (fun _ h => h.elim) (fun k hk => by have := (ac1.lt k hk).1; omega)
      clear hs1 hb2 hw1 ac1
      have hl2 := hs2.lt
      go_wp2_with fail
      refine (some10_any σ n2 _ 4 4 [⟨#[97, 10]⟩, ⟨#[98, 10]⟩, ⟨#[108, 111, 110, 103, 101, 114, 10]⟩, ⟨#[10]⟩] _ (hs2.keep (Kept.alloc _ _ _)) (by omega) (Sl.lit_strs _ (heap_at w2 _ _ rfl) rfl (by have := hs2.lt; omega)) (by omega) (by omega)).mono ?_
      rintro e w3 ⟨v, n3, rfl, ⟨y3, rfl, -, hy3⟩, hA3, hB3, hs3, hb3⟩
      have hw3 := (hw2.then_alloc _).trans hb3
      have ac3 := (ac2.keepAll RReply.ok ((Kept.refl _ _).then_alloc _)).keep RReply.ok hb3 (fun _ h => h.elim) (fun k hk => by have := (ac2.lt k hk).1; omega)
      clear hs2 hb3 hw2 ac2
      have hl3 := hs3.lt
      clear hz2
      have hs4 := hs3.keep (Kept.alloc (fun _ => True) w3 (.cells #[.string y1, .int .i64 z2, .string y3] 79))
      have hw4 : But σ.b wq (w3.alloc (.cells #[.string y1, .int .i64 z2, .string y3] 79)) := hw3.then_alloc _
      have ac4 := ac3.keepAll RReply.ok (Kept.alloc (fun _ => True) w3 (.cells #[.string y1, .int .i64 z2, .string y3] 79))
      have bk4 := heap_at w3 (.cells #[.string y1, .int .i64 z2, .string y3] 79) _ rfl
      obtain ⟨bb, hbb⟩ : ∃ bb, bb = w3.heap.size := ⟨_, rfl⟩
      have HBB := Lib.hid hbb
      rw [← hbb] at bk4
      have hacl := Lib.hid (fun k hk => (ac3.lt k hk).2)
      have hbs : bb ≠ σ.b := by omega
      have hszi := hw3.size
      have hbw : wq.heap.size ≤ bb := by omega
      have hna : ∀ k, (Value.slice av xs.length cv).ownBlock = some k → k ≠ bb := fun k hk => by have := hacl.out k hk; omega
      have hsb : σ.b < bb := by omega
      have HNA := Lib.hid hna
      clear hs3 hw3 ac3 hbb hacl hna
      obtain ⟨n4, hnn4⟩ : ∃ m, m = n3 := ⟨_, rfl⟩
      rw [← hnn4] at hs4
      go_wp2_with fail
      simp only [← HBB.out]
      generalize w3.alloc (.cells #[.string y1, .int .i64 z2, .string y3] 79) = w4 at *
      have hl4 := hs4.lt
      refine (flip_any σ n4 40 _ hs4 (by omega) (by omega) (by omega)).mono ?_
      rintro e w5 ⟨v, n5, rfl, ⟨fb, rfl⟩, hA5, hB5, hs5, hb5⟩
      have hw5 := (hw4).trans hb5
      have ac5 := ac4.keep RReply.ok hb5 (fun _ h => h.elim) (fun k hk => by have := (ac4.lt k hk).1; omega)
      have bk5 := hb5.heap bk4 hbs
      clear hs4 hb5 hw4 ac4 bk4
      have hl5 := hs5.lt
      cases fb with
      | false =>
        have c0 := cell_at (i := 0) bk5 rfl
        have c1 := cell_at (i := 1) bk5 rfl
        have c2 := cell_at (i := 2) bk5 rfl
        have hkr := Lib.hid (fun k (hk : (Value.slice av xs.length cv).ownBlock = some k) => (ac5.lt k hk).1)
        have hszl := hw5.size
        clear bk5
        go_wp2_with (at_builtin; refine wp_append1 RReply.ok _ rfl _ _ 68 rfl wq.heap.size 79 (.agg #[.string ⟨#[]⟩, .int .i64 0, .string ⟨#[]⟩]) 3 40 Tryz.underlying68 (by kernel_rfl) rfl (by decide) (fun _ => False) _ xs rfl (ac5.keepAll RReply.ok (Kept.alloc _ _ _)) ⟨_, 0, none⟩ 1 [.string y1, .int .i64 z2, .string y3] rfl rfl (World.news_of_block (cs := #[.string y1, .int .i64 z2, .string y3]) (heap_at _ _ _ (by simp))) (by simp [Value.oneCell']) ⟨y1, z2, y3⟩ ⟨rfl, hy1, hy3⟩ (by omega) (by decide) (by simp; omega) ?_)
        intro p8 c8 w9 hac9 hgrow _
        have hk9 : Kept (fun k => (Value.slice av xs.length cv).ownBlock ≠ some k) w5 w9 := (Kept.grown (Kept.alloc _ _ _) hgrow (fun k hk => Or.inr (fun h => h hk)))
        have hw9 : But σ.b wq w9 := hw5.trans2 hk9 (fun i hi _ e => by have := hkr.out i e; omega)
        have hs9 := hs5.kept hk9 (fun k hk e => by have := hkr.out k e; omega)
        clear hgrow hk9 ac5 hs5 hw5 c0 c1 c2
        go_wp2_with fail
        go_roundw
        case rel => exact ⟨k + 1, by omega, by go_num, _, n5, by simp; omega, hac9, hs9, by omega, by omega, hw9⟩
        case measure => simp [intOf]; omega
      | true =>
        go_wp2_with fail
        refine (some10_any σ n5 _ 2 2 [⟨#[65]⟩, ⟨#[112, 97]⟩] _ (hs5.keep (Kept.alloc _ _ _)) (by omega) (Sl.lit_strs _ (heap_at w5 _ _ rfl) rfl (by have := hs5.lt; omega)) (by omega) (by omega)).mono ?_
        rintro e w6 ⟨v, n6, rfl, ⟨y4, rfl, -, hy4⟩, hA6, hB6, hs6, hb6⟩
        have hw6 := (hw5.then_alloc _).trans hb6
        have ac6 := (ac5.keepAll RReply.ok ((Kept.refl _ _).then_alloc _)).keep RReply.ok hb6 (fun _ h => h.elim) (fun k hk => by have := (ac5.lt k hk).1; omega)
        have bk6 := hb6.heap (heap_old _ bk5) hbs
        clear hs5 hb6 hw5 ac5 bk5
        have hl6 := hs6.lt
        go_wp2_with fail
        refine (odd10_any σ n6 0 100 _ hs6 (by omega) (by omega) (by omega) (by omega)).mono ?_
        rintro e w7 ⟨v, n7, rfl, ⟨z5, rfl, hz5⟩, hA7, hB7, hs7, hb7⟩
        have hw7 := (hw6).trans hb7
        have ac7 := ac6.keep RReply.ok hb7 (fun _ h => h.elim) (fun k hk => by have := (ac6.lt k hk).1; omega)
        have bk7 := hb7.heap bk6 hbs
        clear hs6 hb7 hw6 ac6 bk6
        have hl7 := hs7.lt
        go_wp2_with fail
        refine (pick_any σ n7 _ 2 2 [5999, 6000] _ (hs7.keep (Kept.alloc _ _ _)) (by omega) (Sl.lit_ints _ (heap_at w7 _ _ rfl) rfl (by have := hs7.lt; omega)) (by omega) (by omega)).mono ?_
        rintro e w8 ⟨v, n8, rfl, ⟨z6, rfl, hz6⟩, hA8, hB8, hs8, hb8⟩
        have hw8 := (hw7.then_alloc _).trans hb8
        have ac8 := (ac7.keepAll RReply.ok ((Kept.refl _ _).then_alloc _)).keep RReply.ok hb8 (fun _ h => h.elim) (fun k hk => by have := (ac7.lt k hk).1; omega)
        have bk8 := hb8.heap (heap_old _ bk7) hbs
        clear hs7 hb8 hw7 ac7 bk7
        have hl8 := hs8.lt
        have hz6v : z6 = 5999 ∨ z6 = 6000 := by simpa using hz6
        obtain ⟨zn, hzn⟩ : ∃ zn : Nat, z6 = (zn : Int) := ⟨z6.toNat, by omega⟩
        subst hzn
        have hznb : zn ≤ 6000 := by omega
        clear hz6 hz6v
        go_wp2_with fail
        refine (repeat_any ⟨#[119]⟩ zn _ (by show 1 * zn ≤ _; omega) (by omega)).mono ?_
        rintro e w9 ⟨tt, rfl, htt, hq9⟩
        have hb9 : But σ.b w8 w9 := Kept.all hq9
        have hs9 := hs8.keep hq9
        have htt2 : tt.size ≤ 6000 := by have : (⟨#[119]⟩ : ByteArray).size = 1 := rfl; rw [this] at htt; omega
        obtain ⟨n9, hnn9⟩ : ∃ m, m = n8 := ⟨_, rfl⟩
        rw [← hnn9] at hs9
        have hnl : (⟨#[10]⟩ : ByteArray).size = 1 := rfl
        obtain ⟨t2, -, ht2, gcat⟩ := catR_run Tryz.prog tt ⟨#[10]⟩ (by omega)
        have ht3 : t2.size ≤ 1000000 := by omega
        clear htt ht2 hnl hq9
        have hw9 := (hw8).trans hb9
        have ac9 := ac8.keep RReply.ok hb9 (fun _ h => h.elim) (fun k hk => by have := (ac8.lt k hk).1; omega)
        have bk9 := hb9.heap bk8 hbs
        clear hs8 hb9 hw8 ac8 bk8
        have hl9 := hs9.lt
        go_wp2_with fail
        refine (some10_any σ n9 _ 3 3 [⟨#[]⟩, ⟨#[120]⟩, t2] _ (hs9.keep (Kept.alloc _ _ _)) (by omega) (Sl.lit_strs' [⟨#[]⟩, ⟨#[120]⟩, t2] (heap_at w9 _ _ rfl) rfl (by have := hs9.lt; omega) (by intro s hs; simp only [List.mem_cons, List.not_mem_nil, or_false] at hs; rcases hs with rfl | rfl | rfl <;> first | exact ht3 | decide)) (by omega) (by omega)).mono ?_
        rintro e w10 ⟨v, n10, rfl, ⟨y7, rfl, -, hy7⟩, hA10, hB10, hs10, hb10⟩
        have hw10 := (hw9.then_alloc _).trans hb10
        have ac10 := (ac9.keepAll RReply.ok ((Kept.refl _ _).then_alloc _)).keep RReply.ok hb10 (fun _ h => h.elim) (fun k hk => by have := (ac9.lt k hk).1; omega)
        have bk10 := hb10.heap (heap_old _ bk9) hbs
        clear hs9 hb10 hw9 ac9 bk9
        have hl10 := hs10.lt
        have d0 := cell_at (i := 0) bk10 rfl
        have d1 := cell_at (i := 1) bk10 rfl
        have d2 := cell_at (i := 2) bk10 rfl
        have f0 := frozen_at (i := 0) bk10
        have f1 := frozen_at (i := 1) bk10
        have f2 := frozen_at (i := 2) bk10
        have hw11 := ((hw10.then_setNew ⟨bb, 0, none⟩ (.string y4) hbw).then_setNew ⟨bb, 1, none⟩ (.int .i64 z5) hbw).then_setNew ⟨bb, 2, none⟩ (.string y7) hbw
        have hs11 := ((hs10.set ⟨bb, 0, none⟩ (.string y4) hsb).set ⟨bb, 1, none⟩ (.int .i64 z5) hsb).set ⟨bb, 2, none⟩ (.string y7) hsb
        have bk11 := heap_setCell_at _ bb 2 (.string y7) _ _ _ (heap_setCell_at _ bb 1 (.int .i64 z5) _ _ _ (heap_setCell_at _ bb 0 (.string y4) _ _ _ bk10))
        have hks : Kept (fun k => k ≠ bb) w10 (((w10.setCell ⟨bb, 0, none⟩ (.string y4)).setCell ⟨bb, 1, none⟩ (.int .i64 z5)).setCell ⟨bb, 2, none⟩ (.string y7)) := (((Kept.refl _ _).then_setCell _ _ (by simp)).then_setCell _ _ (by simp)).then_setCell _ _ (by simp)
        have ac11 := ac10.keep RReply.ok hks (fun _ h => h.elim) (fun k hk => HNA.out k hk)
        simp only [List.setIfInBounds_toArray, List.set_cons_zero, List.set_cons_succ] at bk11
        obtain ⟨n11, hnn11⟩ : ∃ m, m = n10 := ⟨_, rfl⟩
        rw [← hnn11] at hs11
        clear hs10 hw10 ac10 bk10 hks
        obtain ⟨w11, hw11e⟩ : ∃ y : World, y = ((w10.setCell ⟨bb, 0, none⟩ (.string y4)).setCell ⟨bb, 1, none⟩ (.int .i64 z5)).setCell ⟨bb, 2, none⟩ (.string y7) := ⟨_, rfl⟩
        have HWE := Lib.hid hw11e
        rw [← hw11e] at hs11 hw11 ac11 bk11
        clear hw11e
        go_upto_region 7 with fail
        rw [← HWE.out]
        clear d0 d1 d2 f0 f1 f2 HWE gcat
        have c0 := cell_at (i := 0) bk11 rfl
        have c1 := cell_at (i := 1) bk11 rfl
        have c2 := cell_at (i := 2) bk11 rfl
        have hkr := Lib.hid (fun k (hk : (Value.slice av xs.length cv).ownBlock = some k) => (ac11.lt k hk).1)
        have hszl := hw11.size
        clear bk11
        go_wp2_with (at_builtin; refine wp_append1 RReply.ok _ rfl _ _ 68 rfl wq.heap.size 79 (.agg #[.string ⟨#[]⟩, .int .i64 0, .string ⟨#[]⟩]) 3 40 Tryz.underlying68 (by kernel_rfl) rfl (by decide) (fun _ => False) _ xs rfl (ac11.keepAll RReply.ok (Kept.alloc _ _ _)) ⟨_, 0, none⟩ 1 [.string y4, .int .i64 z5, .string y7] rfl rfl (World.news_of_block (cs := #[.string y4, .int .i64 z5, .string y7]) (heap_at _ _ _ (by simp))) (by simp [Value.oneCell']) ⟨y4, z5, y7⟩ ⟨rfl, hy4, hy7⟩ (by omega) (by decide) (by simp; omega) ?_)
        intro p8 c8 w9 hac9 hgrow _
        have hk9 : Kept (fun k => (Value.slice av xs.length cv).ownBlock ≠ some k) w11 w9 := (Kept.grown (Kept.alloc _ _ _) hgrow (fun k hk => Or.inr (fun h => h hk)))
        have hw9 : But σ.b wq w9 := hw11.trans2 hk9 (fun i hi _ e => by have := hkr.out i e; omega)
        have hs9 := hs11.kept hk9 (fun k hk e => by have := hkr.out k e; omega)
        clear hgrow hk9 ac11 hs11 hw11 c0 c1 c2
        go_wp2_with fail
        go_roundw
        case rel => exact ⟨k + 1, by omega, by go_num, _, n11, by simp; omega, hac9, hs9, by omega, by omega, hw9⟩
        case measure => simp [intOf]; omega
    · have hdk : decide ((k : Int) < (M : Int)) = false := by simp; omega
      have hwf := Lib.hid (hwq.trans hw0)
      have hac := Lib.hid (ac0.base0 hsz1)
      obtain ⟨m, hm⟩ : ∃ m, m = xs.length := ⟨_, rfl⟩
      have HM := Lib.hid hm
      rw [← hm] at hac ⊢
      clear hm ac0
      go_wp2_with fail
      go_ret
      exact ⟨_, n0, rfl, ⟨xs, by have := HM.out; omega, hac.out⟩, by omega, by omega, hs0, hwf.out⟩
end Go.Proofs.YtllkemadaemjeaaGreatDoor
