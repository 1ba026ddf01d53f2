/- Replies: how they lie in memory; what CheckReplies finds; which of them count. No program in sight. -/
import Derived.Test.YtllkemadaemjeaaGreatDoorBa
import Derived.Test.YtllkemadaemjeaaGreatDoorDb
import Derived.Test.YtllkemadaemjeaaGreatDoorYa
import Derived.Test.YtllkemadaemjeaaGreatDoorRb
import Derived.Test.YtllkemadaemjeaaGreatDoorZc
import Derived.Test.YtllkemadaemjeaaGreatDoorSr
import Derived.Lib.Repeat
import Derived.Test.YtllkemadaemjeaaGreatDoorDr
import Derived.Test.YtllkemadaemjeaaGreatDoorIp
import Derived.Test.YtllkemadaemjeaaGreatDoorZm
namespace Go.Proofs.YtllkemadaemjeaaGreatDoor
open Go.RowKit

/-- A reply. -/
structure Rep3 where
  paper : ByteArray
  tm : Int
  words : ByteArray
instance : Inhabited Rep3 := ⟨⟨ByteArray.empty, 0, ByteArray.empty⟩⟩
def encRep (x : Rep3) : List Value := [.string x.paper, .int .i64 x.tm, .string x.words]
def RepSmall (x : Rep3) : Prop := x.paper.size ≤ 1000000 ∧ x.words.size ≤ 1000000
def RReply : Rel Rep3 := fun _ _ vs x => vs = encRep x ∧ RepSmall x
theorem RReply.ok : RReply.Ok := ⟨fun _ h => h, fun _ h => h, fun h => h⟩
theorem flatReply : Flat RReply encRep RepSmall 3 :=
  ⟨fun _ _ _ _ => Iff.rfl, fun _ => rfl, by decide, fun x u hu => by simp [encRep] at hu; rcases hu with rfl | rfl | rfl <;> rfl⟩
theorem Sl.atReply {F : Nat → Prop} {w : World} {a : Option Addr} {len : Nat} {xs : List Rep3} (h : Sl RReply 3 F w a len xs) {k : Nat} (hk : k < len) :
    ∃ b off x, a = some ⟨b, off, none⟩ ∧ F b ∧ w.cell? ⟨b, off + k * 3, none⟩ = some (.string x.paper) ∧ w.cell? ⟨b, off + k * 3 + 1, none⟩ = some (.int .i64 x.tm) ∧ w.cell? ⟨b, off + k * 3 + 2, none⟩ = some (.string x.words) ∧
      RepSmall x ∧ xs[k]? = some x ∧ xs = xs.take k ++ x :: xs.drop (k + 1) ∧ xs.take (k + 1) = xs.take k ++ [x] := by
  obtain ⟨b, off, vs, x, ha, hF, h1, h2, ⟨rfl, hsm⟩, h4, h5, h6⟩ := h.at hk
  exact ⟨b, off, x, ha, hF, h2 0 (by simp [encRep]), h2 1 (by simp [encRep]), h2 2 (by simp [encRep]), hsm, h4, h5, h6⟩

noncomputable def repF (x : Rep3) : Int :=
  if isKeyB x.paper = false then 5 else if x.tm < 0 ∨ 5761440 ≤ x.tm then 1 else if x.words.size = 0 then 3 else if isTextB x.words = false then 3 else if 6000 < x.words.size then 2 else 0
noncomputable def repsG : List Rep3 → Int
  | [] => 0
  | x :: l => if repF x ≠ 0 then repF x else repsG l
noncomputable def repsF (l : List Rep3) : Int := if 2000 < l.length then 2 else repsG l
theorem repsG_cons (x : Rep3) (l : List Rep3) : repsG (x :: l) = if repF x ≠ 0 then repF x else repsG l := rfl
/-- The walk over replies up to place k has found nothing. -/
def RepsAt (xs : List Rep3) (k : Nat) : Prop := repsG xs = repsG (xs.drop k)
section
variable {xs : List Rep3} {k : Nat} {x : Rep3}
theorem RepsAt.zero (xs : List Rep3) : RepsAt xs 0 := by simp [RepsAt]
theorem RepsAt.bad {e : Int} (h : RepsAt xs k) (hx : xs[k]? = some x) (hf : repF x = e) (he : e ≠ 0) : repsG xs = e := by
  rw [h, drop_at hx, repsG_cons, hf, if_pos he]
theorem RepsAt.next (h : RepsAt xs k) (hx : xs[k]? = some x) (hf : repF x = 0) : RepsAt xs (k + 1) := by
  unfold RepsAt at *
  rw [h, drop_at hx, repsG_cons, hf, if_neg (by simp)]
theorem RepsAt.ok (h : RepsAt xs k) (hk : xs.length ≤ k) : repsG xs = 0 := by
  rw [h, List.drop_of_length_le hk]; rfl
theorem repF_name (h1 : isKeyB x.paper = false) : repF x = 5 := by rw [repF, if_pos h1]
theorem repF_arg (h1 : isKeyB x.paper = true) (h2 : x.tm < 0 ∨ 5761440 ≤ x.tm) : repF x = 1 := by rw [repF, if_neg (by simp [h1]), if_pos h2]
theorem repF_none (h1 : isKeyB x.paper = true) (h2 : ¬ (x.tm < 0 ∨ 5761440 ≤ x.tm)) (h3 : x.words.size = 0) : repF x = 3 := by rw [repF, if_neg (by simp [h1]), if_neg h2, if_pos h3]
theorem repF_form (h1 : isKeyB x.paper = true) (h2 : ¬ (x.tm < 0 ∨ 5761440 ≤ x.tm)) (h3 : ¬ x.words.size = 0) (h4 : isTextB x.words = false) : repF x = 3 := by rw [repF, if_neg (by simp [h1]), if_neg h2, if_neg h3, if_pos h4]
theorem repF_large (h1 : isKeyB x.paper = true) (h2 : ¬ (x.tm < 0 ∨ 5761440 ≤ x.tm)) (h3 : ¬ x.words.size = 0) (h4 : isTextB x.words = true) (h5 : 6000 < x.words.size) : repF x = 2 := by rw [repF, if_neg (by simp [h1]), if_neg h2, if_neg h3, if_neg (by simp [h4]), if_pos h5]
theorem repF_ok (h1 : isKeyB x.paper = true) (h2 : ¬ (x.tm < 0 ∨ 5761440 ≤ x.tm)) (h3 : ¬ x.words.size = 0) (h4 : isTextB x.words = true) (h5 : ¬ 6000 < x.words.size) : repF x = 0 := by rw [repF, if_neg (by simp [h1]), if_neg h2, if_neg h3, if_neg (by simp [h4]), if_neg h5]
end
theorem repsF_large {xs : List Rep3} (h : 2000 < xs.length) : repsF xs = 2 := by rw [repsF, if_pos h]
theorem repsF_some {xs : List Rep3} (h : ¬ 2000 < xs.length) : repsF xs = repsG xs := by rw [repsF, if_neg h]

/-- Rules of replies. -/
structure RR where
  fr : Int
  til : Int
  most : Int
abbrev RR.val (r : RR) : Value := .agg #[.int .i64 r.fr, .int .i64 r.til, .int .i64 r.most]
def rrF (r : RR) : Int := if r.fr < 0 ∨ r.til < r.fr then 1 else if 5761440 < r.til then 1 else if r.most < 0 ∨ 6000 < r.most then 1 else 0

/-- Strings in order. -/
def ltB (a b : ByteArray) : Bool := Op.bytesLess a.toList b.toList
theorem ltB_irrefl (a : ByteArray) : ltB a a = false := bl_irrefl _
theorem ltB_trans {a b c : ByteArray} (h1 : ltB a b = true) (h2 : ltB b c = true) : ltB a c = true := bl_trans h1 h2
theorem ltB_total {a b : ByteArray} (h1 : ltB a b = false) (h2 : ltB b a = false) : a = b := by
  by_cases h : a.toList = b.toList
  · exact bytes_ext h
  · have := bl_total h1 h
    rw [ltB, this] at h2
    cases h2

/-- x is the greater one of two replies. -/
def betterB (x y : Rep3) : Bool := decide (y.tm < x.tm) || (decide (x.tm = y.tm) && ltB y.words x.words)
theorem betterB_irrefl (x : Rep3) : betterB x x = false := by simp [betterB, ltB_irrefl]
theorem betterB_trans {x y z : Rep3} (h1 : betterB x y = true) (h2 : betterB y z = true) : betterB x z = true := by
  simp only [betterB, Bool.or_eq_true, decide_eq_true_eq, Bool.and_eq_true] at *
  rcases h1 with h1 | ⟨h1, h1'⟩
  · rcases h2 with h2 | ⟨h2, -⟩
    · exact Or.inl (by omega)
    · exact Or.inl (by omega)
  · rcases h2 with h2 | ⟨h2, h2'⟩
    · exact Or.inl (by omega)
    · exact Or.inr ⟨by omega, ltB_trans h2' h1'⟩
theorem betterB_total {x y : Rep3} (h1 : betterB x y = false) (h2 : betterB y x = false) (hp : x.paper = y.paper) : x = y := by
  simp only [betterB, Bool.or_eq_false_iff, decide_eq_false_iff_not, Bool.and_eq_false_iff] at *
  have ht : x.tm = y.tm := by omega
  have hw : x.words = y.words := by
    refine (ltB_total (h1.2.resolve_left (by simp [ht])) (h2.2.resolve_left (by simp [ht]))).symm
  cases x; cases y; simp_all

/-- Whether a reply comes in time, and is short enough. -/
def timelyB (r : RR) (x : Rep3) : Bool := decide (r.fr ≤ x.tm) && decide (x.tm < r.til) && decide ((x.words.size : Int) ≤ r.most)
/-- The best one of the replies of a paper. -/
def bestStep (p : ByteArray) (o : Option Rep3) (x : Rep3) : Option Rep3 := if x.paper = p then (match o with | none => some x | some y => if betterB x y = true then some x else some y) else o
def bestR (ts : List Rep3) (p : ByteArray) : Option Rep3 := ts.foldl (bestStep p) none
theorem bestR_snoc (ts : List Rep3) (x : Rep3) (p : ByteArray) : bestR (ts ++ [x]) p = bestStep p (bestR ts p) x := by simp [bestR]
theorem list_snoc_ind {α : Type} {P : List α → Prop} (h0 : P []) (h1 : ∀ l x, P l → P (l ++ [x])) (l : List α) : P l := by
  have : ∀ m : List α, P m.reverse := fun m => by
    induction m with
    | nil => exact h0
    | cons x m ih => rw [List.reverse_cons]; exact h1 _ _ ih
  simpa using this l.reverse
theorem bestR_none {ts : List Rep3} {p : ByteArray} : bestR ts p = none ↔ ∀ x ∈ ts, x.paper ≠ p := by
  refine list_snoc_ind (P := fun ts => bestR ts p = none ↔ ∀ x ∈ ts, x.paper ≠ p) (by simp [bestR]) (fun l x ih => ?_) ts
  rw [bestR_snoc]
  unfold bestStep
  by_cases h : x.paper = p
  · rw [if_pos h]
    constructor
    · intro h2
      cases ho : bestR l p <;> rw [ho] at h2
      · cases h2
      · simp only at h2; split at h2 <;> cases h2
    · intro h2
      exact absurd h (h2 x (by simp))
  · rw [if_neg h, ih]
    constructor
    · intro h2 y hy
      simp only [List.mem_append, List.mem_cons, List.not_mem_nil, or_false] at hy
      rcases hy with hy | rfl
      · exact h2 y hy
      · exact h
    · intro h2 y hy
      exact h2 y (by simp [hy])
theorem bestR_some {ts : List Rep3} {p : ByteArray} {b : Rep3} (h : bestR ts p = some b) : b ∈ ts ∧ b.paper = p ∧ ∀ y ∈ ts, y.paper = p → betterB y b = false := by
  revert b
  refine list_snoc_ind (P := fun ts => ∀ {b : Rep3}, bestR ts p = some b → b ∈ ts ∧ b.paper = p ∧ ∀ y ∈ ts, y.paper = p → betterB y b = false) (fun {b} h => by simp [bestR] at h) (fun l x ih {b} h => ?_) ts
  rw [bestR_snoc] at h
  unfold bestStep at h
  by_cases hp : x.paper = p
  · rw [if_pos hp] at h
    cases ho : bestR l p with
    | none =>
      rw [ho] at h
      simp only [Option.some.injEq] at h
      subst h
      refine ⟨by simp, hp, fun y hy hyp => ?_⟩
      simp only [List.mem_append, List.mem_cons, List.not_mem_nil, or_false] at hy
      rcases hy with hy | rfl
      · exact absurd hyp (bestR_none.1 ho y hy)
      · exact betterB_irrefl _
    | some c =>
      rw [ho] at h
      obtain ⟨h1, h2, h3⟩ := ih ho
      simp only at h
      split at h
      · rename_i hb
        simp only [Option.some.injEq] at h
        subst h
        refine ⟨by simp, hp, fun y hy hyp => ?_⟩
        simp only [List.mem_append, List.mem_cons, List.not_mem_nil, or_false] at hy
        rcases hy with hy | rfl
        · cases hyx : betterB y x with
          | false => rfl
          | true =>
            have := betterB_trans hyx hb
            rw [h3 y hy hyp] at this
            cases this
        · exact betterB_irrefl _
      · rename_i hb
        simp only [Option.some.injEq] at h
        subst h
        refine ⟨by simp [h1], h2, fun y hy hyp => ?_⟩
        simp only [List.mem_append, List.mem_cons, List.not_mem_nil, or_false] at hy
        rcases hy with hy | rfl
        · exact h3 y hy hyp
        · simpa using hb
  · rw [if_neg hp] at h
    obtain ⟨h1, h2, h3⟩ := ih h
    refine ⟨by simp [h1], h2, fun y hy hyp => ?_⟩
    simp only [List.mem_append, List.mem_cons, List.not_mem_nil, or_false] at hy
    rcases hy with hy | rfl
    · exact h3 y hy hyp
    · exact absurd hyp hp
/-- The greatest one of each paper's replies, the papers rising. -/
def IsCounted (ts L : List Rep3) : Prop := L.Pairwise (fun x y => ltB x.paper y.paper = true) ∧ ∀ x, x ∈ L ↔ bestR ts x.paper = some x
theorem IsCounted.uniq {ts L M : List Rep3} (h1 : IsCounted ts L) (h2 : IsCounted ts M) : L = M :=
  rise_ext (lt := fun x y : Rep3 => ltB x.paper y.paper = true) (fun a h => by rw [ltB_irrefl] at h; cases h) (fun h1 h2 => ltB_trans h1 h2) h1.1 h2.1 (fun x => by rw [h1.2 x, h2.2 x])
/-- What no other one of its paper surpasses. -/
def topB (ts : List Rep3) (x : Rep3) : Bool := !ts.any fun y => decide (y.paper = x.paper) && betterB y x
theorem topB_iff {ts : List Rep3} {x : Rep3} (hx : x ∈ ts) : topB ts x = true ↔ bestR ts x.paper = some x := by
  have e : topB ts x = true ↔ ∀ y ∈ ts, y.paper = x.paper → betterB y x = false := by
    unfold topB
    simp only [Bool.not_eq_true', List.any_eq_false, Bool.and_eq_true, decide_eq_true_eq, not_and, Bool.not_eq_true]
  rw [e]
  constructor
  · intro h
    cases hb : bestR ts x.paper with
    | none => exact absurd rfl (bestR_none.1 hb x hx)
    | some b =>
      obtain ⟨h1, h2, h3⟩ := bestR_some hb
      rw [betterB_total (h3 x hx rfl) (h b h1 h2) h2.symm]
  · intro h
    exact (bestR_some h).2.2
end Go.Proofs.YtllkemadaemjeaaGreatDoor

/- The generators ReplyRules and RepliesOf. -/
namespace Go.Proofs.YtllkemadaemjeaaGreatDoor
open Go.RowKit

/-- A string is put behind another one. -/
theorem catR_run (P : Program) (a b : ByteArray) (h : a.size + b.size ≤ 9223372036854775807) : ∃ t : ByteArray, t = a ++ b ∧ t.size = a.size + b.size ∧ ∀ wx : World, (Op.stringOp .add a b).run P wx = .ok (.string t) wx :=
  ⟨_, rfl, ByteArray.size_append, fun wx => run_string_add_sum wx a b h⟩
theorem repeat_any (s : ByteArray) (c : Nat) (w : World) (hc : s.size * c ≤ 1000000) (hc2 : c ≤ 1000000) :
    Calls Tryz.prog 67 #[.string s, .int .i64 c] w fun e w' => ∃ t : ByteArray, e = .returned (.string t) ∧ t.size = c * s.size ∧ All w w' := by
  refine (Tryz.strings_Repeat s c w (by omega) (by omega)).mono ?_
  rintro e w' ⟨rfl, hb⟩
  refine ⟨_, rfl, ?_, Kept.of_below hb⟩
  have h := Lib.repeatL_length s.data.toList c
  have h2 : s.data.toList.length = s.size := by rw [Array.length_toList]; rfl
  show (Lib.repeatL s.data.toList c).toArray.size = _
  rw [List.size_toArray, h, h2]

def IsRules (v : Value) (_ : World) : Prop := ∃ r : RR, v = r.val
set_option maxRecDepth 100000 in
set_option maxHeartbeats 1600000 in
theorem replyRules_any (σ : St) (n : Nat) (w : World) (hs : Str σ w n) (hn : n ≤ 4611686018427200000) :
    Calls Tryz.prog 30 #[.pointer (some ⟨σ.b, 0, none⟩)] w (StPost σ n 3 w IsRules) := by
  have hlt := hs.lt
  have hw0 : But σ.b w (w.alloc (.cells #[.int .i64 0, .int .i64 0, .int .i64 0] 66)) := Kept.alloc _ _ _
  have hs0 := hs.keep (Kept.alloc (fun _ => True) w (.cells #[.int .i64 0, .int .i64 0, .int .i64 0] 66))
  have bk0 := heap_at w (.cells #[.int .i64 0, .int .i64 0, .int .i64 0] 66) _ rfl
  obtain ⟨n0, hn0⟩ : ∃ m, m = n := ⟨_, rfl⟩
  rw [← hn0] at hs0
  obtain ⟨bb, hbb⟩ : ∃ bb, bb = w.heap.size := ⟨_, rfl⟩
  have HBB := Lib.hid hbb
  rw [← hbb] at bk0
  have hbs : bb ≠ σ.b := by omega
  have hbw : w.heap.size ≤ bb := by omega
  have HS0 := Lib.hid (show bb + 1 = (w.alloc (.cells #[.int .i64 0, .int .i64 0, .int .i64 0] 66)).heap.size by simp; omega)
  clear hs hbb
  go_enter Tryz.func30, Tryz.ntmps30
  go_wp2_with fail
  simp only [← HBB.out]
  generalize w.alloc (.cells #[.int .i64 0, .int .i64 0, .int .i64 0] 66) = w0 at *
  rw [HS0.out]
  refine (pick_any σ n0 _ 5 5 [0, 5, 5, -1, 200] _ (hs0.keep (Kept.alloc _ _ _)) (by omega) (Sl.lit_ints _ (heap_at w0 _ _ rfl) rfl (by have := hs0.lt; omega)) (by omega) (by omega)).mono ?_
  rintro e w1 ⟨v, n1, rfl, ⟨z1, rfl, hz1⟩, hA1, hB1, hs1, hb1⟩
  have hw1 := (hw0.then_alloc _).trans hb1
  have bk1 := hb1.heap (heap_old _ bk0) hbs
  clear hs0 hb1 hw0 bk0
  have hl1 := hs1.lt
  clear hz1
  go_wp2_with fail
  refine (pick_any σ n1 _ 5 5 [9, 10, 101, 5761440, 5761441] _ (hs1.keep (Kept.alloc _ _ _)) (by omega) (Sl.lit_ints _ (heap_at w1 _ _ rfl) rfl (by have := hs1.lt; omega)) (by omega) (by omega)).mono ?_
  rintro e w2 ⟨v, n2, rfl, ⟨z2, rfl, hz2⟩, hA2, hB2, hs2, hb2⟩
  have hw2 := (hw1.then_alloc _).trans hb2
  have bk2 := hb2.heap (heap_old _ bk1) hbs
  clear hs1 hb2 hw1 bk1
  have hl2 := hs2.lt
  clear hz2
  go_wp2_with fail
  refine (pick_any σ n2 _ 6 6 [0, 2, 6, 100, 6000, 6001] _ (hs2.keep (Kept.alloc _ _ _)) (by omega) (Sl.lit_ints _ (heap_at w2 _ _ rfl) rfl (by have := hs2.lt; omega)) (by omega) (by omega)).mono ?_
  rintro e w3 ⟨v, n3, rfl, ⟨z3, rfl, hz3⟩, hA3, hB3, hs3, hb3⟩
  have hw3 := (hw2.then_alloc _).trans hb3
  have bk3 := hb3.heap (heap_old _ bk2) hbs
  clear hs2 hb3 hw2 bk2
  have hl3 := hs3.lt
  clear hz3
  have q0 := cell_at (i := 0) bk3 rfl
  have q1 := cell_at (i := 1) bk3 rfl
  have q2 := cell_at (i := 2) bk3 rfl
  have f0 := frozen_at (i := 0) bk3
  have f1 := frozen_at (i := 1) bk3
  have f2 := frozen_at (i := 2) bk3
  have hfin := Lib.hid (⟨((hw3.then_setNew ⟨bb, 0, none⟩ (.int .i64 z1) hbw).then_setNew ⟨bb, 1, none⟩ (.int .i64 z2) hbw).then_setNew ⟨bb, 2, none⟩ (.int .i64 z3) hbw, ((hs3.set ⟨bb, 0, none⟩ (.int .i64 z1) (by dsimp only; omega)).set ⟨bb, 1, none⟩ (.int .i64 z2) (by dsimp only; omega)).set ⟨bb, 2, none⟩ (.int .i64 z3) (by dsimp only; omega)⟩ : _ ∧ _)
  have bkf := heap_setCell_at _ bb 2 (.int .i64 z3) _ _ _ (heap_setCell_at _ bb 1 (.int .i64 z2) _ _ _ (heap_setCell_at _ bb 0 (.int .i64 z1) _ _ _ bk3))
  simp only [List.setIfInBounds_toArray, List.set_cons_zero, List.set_cons_succ] at bkf
  have r0 := cell_at (i := 0) bkf rfl
  have r1 := cell_at (i := 1) bkf rfl
  have r2 := cell_at (i := 2) bkf rfl
  clear bk3 hs3 hw3 bkf
  go_wp2_with fail
  refine bodyPost_ret (v := .agg #[.int .i64 z1, .int .i64 z2, .int .i64 z3]) ?_ rfl ⟨_, n3, rfl, ⟨⟨z1, z2, z3⟩, rfl⟩, by omega, by omega, hfin.out.2, hfin.out.1⟩
  simp [results, Tryz.results30, go_sem, r0, r1, r2]

def IsReplies (B mx : Nat) (v : Value) (w : World) : Prop := ∃ xs : List Rep3, xs.length ≤ mx ∧ Acc RReply 3 79 (fun _ => False) B w v xs

set_option maxRecDepth 100000 in
set_option maxHeartbeats 6400000 in
theorem repliesOf_any (σ : St) (n : Nat) (w : World) (hs : Str σ w n) (hn : n ≤ 4611686018427200000) :
    Calls Tryz.prog 31 #[.pointer (some ⟨σ.b, 0, none⟩)] w (StPost σ n 100 w (IsReplies w.heap.size 7)) := by
  have hlt := hs.lt
  go_enter Tryz.func31, Tryz.ntmps31
  go_wp2_with fail
  refine (range_any σ n 0 7 _ hs (by omega) (by omega) (by omega) (by omega)).mono ?_
  rintro e wq ⟨v, m1, rfl, ⟨r1, rfl, hr1, hr2⟩, hm1, hm2, hsq, hwq⟩
  obtain ⟨M, rfl⟩ := Int.eq_ofNat_of_zero_le hr1
  have hsz1 := hwq.size
  clear hs
  have hlq := hsq.lt
  go_wp2_with fail
  go_loopw [3, 7] (fun o i wr => ∃ k : Nat, k ≤ M ∧ i = .int .i64 k ∧ ∃ (xs : List Rep3) (n' : Nat), xs.length ≤ k ∧ Acc RReply 3 79 (fun _ => False) wq.heap.size wr o xs ∧ Str σ wr n' ∧ m1 ≤ n' ∧ n' ≤ m1 + 12 * k ∧ But σ.b wq wr) (fun _ i _ => M - (intOf i).toNat)
  case atStart => exact ⟨0, Nat.zero_le _, rfl, [], m1, Nat.le_refl _, Acc.nil _ _ _ _ _ _, hsq, Nat.le_refl _, by omega, Kept.refl _ _⟩
  case round =>
    clear hsq
    obtain ⟨k, hk, rfl, xs, n0, hxl, ac0, hs0, hn1, hn2, hw0⟩ := hrel
    obtain ⟨w0, rfl⟩ : ∃ wo : World, wo = wr := ⟨_, rfl⟩
    obtain ⟨av, cv, rfl, hcv⟩ := ac0.form
    by_cases hlt2 : k < M
    · have hl0 := hs0.lt
      go_wp2_with fail
      refine (some10_any σ n0 _ 3 3 [⟨#[112, 97]⟩, ⟨#[112, 98]⟩, ⟨#[112, 99]⟩] _ (hs0.keep (Kept.alloc _ _ _)) (by omega) (Sl.lit_strs _ (heap_at w0 _ _ rfl) rfl (by have := hs0.lt; omega)) (by omega) (by omega)).mono ?_
      rintro e w1 ⟨v, n1, rfl, ⟨y1, rfl, -, hy1⟩, hA1, hB1, hs1, hb1⟩
      have hw1 := (hw0.then_alloc _).trans hb1
      have ac1 := (ac0.keepAll RReply.ok ((Kept.refl _ _).then_alloc _)).keep RReply.ok hb1 (fun _ h => h.elim) (fun k hk => by have := (ac0.lt k hk).1; omega)
      clear hs0 hb1 hw0 ac0
      have hl1 := hs1.lt
      go_wp2_with fail
      refine (pick_any σ n1 _ 5 5 [0, 5, 5, 9, 100] _ (hs1.keep (Kept.alloc _ _ _)) (by omega) (Sl.lit_ints _ (heap_at w1 _ _ rfl) rfl (by have := hs1.lt; omega)) (by omega) (by omega)).mono ?_
      rintro e w2 ⟨v, n2, rfl, ⟨z2, rfl, hz2⟩, hA2, hB2, hs2, hb2⟩
      have hw2 := (hw1.then_alloc _).trans hb2
      have ac2 := (ac1.keepAll RReply.ok ((Kept.refl _ _).then_alloc _)).keep RReply.ok hb2 (fun _ h => h.elim) (fun k hk => by have := (ac1.lt k hk).1; omega)
      clear hs1 hb2 hw1 ac1
      have hl2 := hs2.lt
      go_wp2_with fail
      refine (some10_any σ n2 _ 4 4 [⟨#[97, 10]⟩, ⟨#[98, 10]⟩, ⟨#[108, 111, 110, 103, 101, 114, 10]⟩, ⟨#[10]⟩] _ (hs2.keep (Kept.alloc _ _ _)) (by omega) (Sl.lit_strs _ (heap_at w2 _ _ rfl) rfl (by have := hs2.lt; omega)) (by omega) (by omega)).mono ?_
      rintro e w3 ⟨v, n3, rfl, ⟨y3, rfl, -, hy3⟩, hA3, hB3, hs3, hb3⟩
      have hw3 := (hw2.then_alloc _).trans hb3
      have ac3 := (ac2.keepAll RReply.ok ((Kept.refl _ _).then_alloc _)).keep RReply.ok hb3 (fun _ h => h.elim) (fun k hk => by have := (ac2.lt k hk).1; omega)
      clear hs2 hb3 hw2 ac2
      have hl3 := hs3.lt
      clear hz2
      have hs4 := hs3.keep (Kept.alloc (fun _ => True) w3 (.cells #[.string y1, .int .i64 z2, .string y3] 79))
      have hw4 : But σ.b wq (w3.alloc (.cells #[.string y1, .int .i64 z2, .string y3] 79)) := hw3.then_alloc _
      have ac4 := ac3.keepAll RReply.ok (Kept.alloc (fun _ => True) w3 (.cells #[.string y1, .int .i64 z2, .string y3] 79))
      have bk4 := heap_at w3 (.cells #[.string y1, .int .i64 z2, .string y3] 79) _ rfl
      obtain ⟨bb, hbb⟩ : ∃ bb, bb = w3.heap.size := ⟨_, rfl⟩
      have HBB := Lib.hid hbb
      rw [← hbb] at bk4
      have hacl := Lib.hid (fun k hk => (ac3.lt k hk).2)
      have hbs : bb ≠ σ.b := by omega
      have hszi := hw3.size
      have hbw : wq.heap.size ≤ bb := by omega
      have hna : ∀ k, (Value.slice av xs.length cv).ownBlock = some k → k ≠ bb := fun k hk => by have := hacl.out k hk; omega
      have hsb : σ.b < bb := by omega
      have HNA := Lib.hid hna
      clear hs3 hw3 ac3 hbb hacl hna
      obtain ⟨n4, hnn4⟩ : ∃ m, m = n3 := ⟨_, rfl⟩
      rw [← hnn4] at hs4
      go_wp2_with fail
      simp only [← HBB.out]
      generalize w3.alloc (.cells #[.string y1, .int .i64 z2, .string y3] 79) = w4 at *
      have hl4 := hs4.lt
      refine (flip_any σ n4 40 _ hs4 (by omega) (by omega) (by omega)).mono ?_
      rintro e w5 ⟨v, n5, rfl, ⟨fb, rfl⟩, hA5, hB5, hs5, hb5⟩
      have hw5 := (hw4).trans hb5
      have ac5 := ac4.keep RReply.ok hb5 (fun _ h => h.elim) (fun k hk => by have := (ac4.lt k hk).1; omega)
      have bk5 := hb5.heap bk4 hbs
      clear hs4 hb5 hw4 ac4 bk4
      have hl5 := hs5.lt
      cases fb with
      | false =>
        have c0 := cell_at (i := 0) bk5 rfl
        have c1 := cell_at (i := 1) bk5 rfl
        have c2 := cell_at (i := 2) bk5 rfl
        have hkr := Lib.hid (fun k (hk : (Value.slice av xs.length cv).ownBlock = some k) => (ac5.lt k hk).1)
        have hszl := hw5.size
        clear bk5
        go_wp2_with (at_builtin; refine wp_append1 RReply.ok _ rfl _ _ 68 rfl wq.heap.size 79 (.agg #[.string ⟨#[]⟩, .int .i64 0, .string ⟨#[]⟩]) 3 40 Tryz.underlying68 (by kernel_rfl) rfl (by decide) (fun _ => False) _ xs rfl (ac5.keepAll RReply.ok (Kept.alloc _ _ _)) ⟨_, 0, none⟩ 1 [.string y1, .int .i64 z2, .string y3] rfl rfl (World.news_of_block (cs := #[.string y1, .int .i64 z2, .string y3]) (heap_at _ _ _ (by simp))) (by simp [Value.oneCell']) ⟨y1, z2, y3⟩ ⟨rfl, hy1, hy3⟩ (by omega) (by decide) (by simp; omega) ?_)
        intro p8 c8 w9 hac9 hgrow _
        have hk9 : Kept (fun k => (Value.slice av xs.length cv).ownBlock ≠ some k) w5 w9 := (Kept.grown (Kept.alloc _ _ _) hgrow (fun k hk => Or.inr (fun h => h hk)))
        have hw9 : But σ.b wq w9 := hw5.trans2 hk9 (fun i hi _ e => by have := hkr.out i e; omega)
        have hs9 := hs5.kept hk9 (fun k hk e => by have := hkr.out k e; omega)
        clear hgrow hk9 ac5 hs5 hw5 c0 c1 c2
        go_wp2_with fail
        go_roundw
        case rel => exact ⟨k + 1, by omega, by go_num, _, n5, by simp; omega, hac9, hs9, by omega, by omega, hw9⟩
        case measure => simp [intOf]; omega
      | true =>
        go_wp2_with fail
        refine (some10_any σ n5 _ 2 2 [⟨#[65]⟩, ⟨#[112, 97]⟩] _ (hs5.keep (Kept.alloc _ _ _)) (by omega) (Sl.lit_strs _ (heap_at w5 _ _ rfl) rfl (by have := hs5.lt; omega)) (by omega) (by omega)).mono ?_
        rintro e w6 ⟨v, n6, rfl, ⟨y4, rfl, -, hy4⟩, hA6, hB6, hs6, hb6⟩
        have hw6 := (hw5.then_alloc _).trans hb6
        have ac6 := (ac5.keepAll RReply.ok ((Kept.refl _ _).then_alloc _)).keep RReply.ok hb6 (fun _ h => h.elim) (fun k hk => by have := (ac5.lt k hk).1; omega)
        have bk6 := hb6.heap (heap_old _ bk5) hbs
        clear hs5 hb6 hw5 ac5 bk5
        have hl6 := hs6.lt
        go_wp2_with fail
        refine (odd10_any σ n6 0 100 _ hs6 (by omega) (by omega) (by omega) (by omega)).mono ?_
        rintro e w7 ⟨v, n7, rfl, ⟨z5, rfl, hz5⟩, hA7, hB7, hs7, hb7⟩
        have hw7 := (hw6).trans hb7
        have ac7 := ac6.keep RReply.ok hb7 (fun _ h => h.elim) (fun k hk => by have := (ac6.lt k hk).1; omega)
        have bk7 := hb7.heap bk6 hbs
        clear hs6 hb7 hw6 ac6 bk6
        have hl7 := hs7.lt
        go_wp2_with fail
        refine (pick_any σ n7 _ 2 2 [5999, 6000] _ (hs7.keep (Kept.alloc _ _ _)) (by omega) (Sl.lit_ints _ (heap_at w7 _ _ rfl) rfl (by have := hs7.lt; omega)) (by omega) (by omega)).mono ?_
        rintro e w8 ⟨v, n8, rfl, ⟨z6, rfl, hz6⟩, hA8, hB8, hs8, hb8⟩
        have hw8 := (hw7.then_alloc _).trans hb8
        have ac8 := (ac7.keepAll RReply.ok ((Kept.refl _ _).then_alloc _)).keep RReply.ok hb8 (fun _ h => h.elim) (fun k hk => by have := (ac7.lt k hk).1; omega)
        have bk8 := hb8.heap (heap_old _ bk7) hbs
        clear hs7 hb8 hw7 ac7 bk7
        have hl8 := hs8.lt
        have hz6v : z6 = 5999 ∨ z6 = 6000 := by simpa using hz6
        obtain ⟨zn, hzn⟩ : ∃ zn : Nat, z6 = (zn : Int) := ⟨z6.toNat, by omega⟩
        subst hzn
        have hznb : zn ≤ 6000 := by omega
        clear hz6 hz6v
        go_wp2_with fail
        refine (repeat_any ⟨#[119]⟩ zn _ (by show 1 * zn ≤ _; omega) (by omega)).mono ?_
        rintro e w9 ⟨tt, rfl, htt, hq9⟩
        have hb9 : But σ.b w8 w9 := Kept.all hq9
        have hs9 := hs8.keep hq9
        have htt2 : tt.size ≤ 6000 := by have : (⟨#[119]⟩ : ByteArray).size = 1 := rfl; rw [this] at htt; omega
        obtain ⟨n9, hnn9⟩ : ∃ m, m = n8 := ⟨_, rfl⟩
        rw [← hnn9] at hs9
        have hnl : (⟨#[10]⟩ : ByteArray).size = 1 := rfl
        obtain ⟨t2, -, ht2, gcat⟩ := catR_run Tryz.prog tt ⟨#[10]⟩ (by omega)
        have ht3 : t2.size ≤ 1000000 := by omega
        clear htt ht2 hnl hq9
        have hw9 := (hw8).trans hb9
        have ac9 := ac8.keep RReply.ok hb9 (fun _ h => h.elim) (fun k hk => by have := (ac8.lt k hk).1; omega)
        have bk9 := hb9.heap bk8 hbs
        clear hs8 hb9 hw8 ac8 bk8
        have hl9 := hs9.lt
        go_wp2_with fail
        refine (some10_any σ n9 _ 3 3 [⟨#[]⟩, ⟨#[120]⟩, t2] _ (hs9.keep (Kept.alloc _ _ _)) (by omega) (Sl.lit_strs' [⟨#[]⟩, ⟨#[120]⟩, t2] (heap_at w9 _ _ rfl) rfl (by have := hs9.lt; omega) (by intro s hs; simp only [List.mem_cons, List.not_mem_nil, or_false] at hs; rcases hs with rfl | rfl | rfl <;> first | exact ht3 | decide)) (by omega) (by omega)).mono ?_
        rintro e w10 ⟨v, n10, rfl, ⟨y7, rfl, -, hy7⟩, hA10, hB10, hs10, hb10⟩
        have hw10 := (hw9.then_alloc _).trans hb10
        have ac10 := (ac9.keepAll RReply.ok ((Kept.refl _ _).then_alloc _)).keep RReply.ok hb10 (fun _ h => h.elim) (fun k hk => by have := (ac9.lt k hk).1; omega)
        have bk10 := hb10.heap (heap_old _ bk9) hbs
        clear hs9 hb10 hw9 ac9 bk9
        have hl10 := hs10.lt
        have d0 := cell_at (i := 0) bk10 rfl
        have d1 := cell_at (i := 1) bk10 rfl
        have d2 := cell_at (i := 2) bk10 rfl
        have f0 := frozen_at (i := 0) bk10
        have f1 := frozen_at (i := 1) bk10
        have f2 := frozen_at (i := 2) bk10
        have hw11 := ((hw10.then_setNew ⟨bb, 0, none⟩ (.string y4) hbw).then_setNew ⟨bb, 1, none⟩ (.int .i64 z5) hbw).then_setNew ⟨bb, 2, none⟩ (.string y7) hbw
        have hs11 := ((hs10.set ⟨bb, 0, none⟩ (.string y4) hsb).set ⟨bb, 1, none⟩ (.int .i64 z5) hsb).set ⟨bb, 2, none⟩ (.string y7) hsb
        have bk11 := heap_setCell_at _ bb 2 (.string y7) _ _ _ (heap_setCell_at _ bb 1 (.int .i64 z5) _ _ _ (heap_setCell_at _ bb 0 (.string y4) _ _ _ bk10))
        have hks : Kept (fun k => k ≠ bb) w10 (((w10.setCell ⟨bb, 0, none⟩ (.string y4)).setCell ⟨bb, 1, none⟩ (.int .i64 z5)).setCell ⟨bb, 2, none⟩ (.string y7)) := (((Kept.refl _ _).then_setCell _ _ (by simp)).then_setCell _ _ (by simp)).then_setCell _ _ (by simp)
        have ac11 := ac10.keep RReply.ok hks (fun _ h => h.elim) (fun k hk => HNA.out k hk)
        simp only [List.setIfInBounds_toArray, List.set_cons_zero, List.set_cons_succ] at bk11
        obtain ⟨n11, hnn11⟩ : ∃ m, m = n10 := ⟨_, rfl⟩
        rw [← hnn11] at hs11
        clear hs10 hw10 ac10 bk10 hks
        obtain ⟨w11, hw11e⟩ : ∃ y : World, y = ((w10.setCell ⟨bb, 0, none⟩ (.string y4)).setCell ⟨bb, 1, none⟩ (.int .i64 z5)).setCell ⟨bb, 2, none⟩ (.string y7) := ⟨_, rfl⟩
        have HWE := Lib.hid hw11e
        rw [← hw11e] at hs11 hw11 ac11 bk11
        clear hw11e
        go_upto_region 7 with fail
        rw [← HWE.out]
        clear d0 d1 d2 f0 f1 f2 HWE gcat
        have c0 := cell_at (i := 0) bk11 rfl
        have c1 := cell_at (i := 1) bk11 rfl
        have c2 := cell_at (i := 2) bk11 rfl
        have hkr := Lib.hid (fun k (hk : (Value.slice av xs.length cv).ownBlock = some k) => (ac11.lt k hk).1)
        have hszl := hw11.size
        clear bk11
        go_wp2_with (at_builtin; refine wp_append1 RReply.ok _ rfl _ _ 68 rfl wq.heap.size 79 (.agg #[.string ⟨#[]⟩, .int .i64 0, .string ⟨#[]⟩]) 3 40 Tryz.underlying68 (by kernel_rfl) rfl (by decide) (fun _ => False) _ xs rfl (ac11.keepAll RReply.ok (Kept.alloc _ _ _)) ⟨_, 0, none⟩ 1 [.string y4, .int .i64 z5, .string y7] rfl rfl (World.news_of_block (cs := #[.string y4, .int .i64 z5, .string y7]) (heap_at _ _ _ (by simp))) (by simp [Value.oneCell']) ⟨y4, z5, y7⟩ ⟨rfl, hy4, hy7⟩ (by omega) (by decide) (by simp; omega) ?_)
        intro p8 c8 w9 hac9 hgrow _
        have hk9 : Kept (fun k => (Value.slice av xs.length cv).ownBlock ≠ some k) w11 w9 := (Kept.grown (Kept.alloc _ _ _) hgrow (fun k hk => Or.inr (fun h => h hk)))
        have hw9 : But σ.b wq w9 := hw11.trans2 hk9 (fun i hi _ e => by have := hkr.out i e; omega)
        have hs9 := hs11.kept hk9 (fun k hk e => by have := hkr.out k e; omega)
        clear hgrow hk9 ac11 hs11 hw11 c0 c1 c2
        go_wp2_with fail
        go_roundw
        case rel => exact ⟨k + 1, by omega, by go_num, _, n11, by simp; omega, hac9, hs9, by omega, by omega, hw9⟩
        case measure => simp [intOf]; omega
    · have hdk : decide ((k : Int) < (M : Int)) = false := by simp; omega
      have hwf := Lib.hid (hwq.trans hw0)
      have hac := Lib.hid (ac0.base0 hsz1)
      obtain ⟨m, hm⟩ : ∃ m, m = xs.length := ⟨_, rfl⟩
      have HM := Lib.hid hm
      rw [← hm] at hac ⊢
      clear hm ac0
      go_wp2_with fail
      go_ret
      exact ⟨_, n0, rfl, ⟨xs, by have := HM.out; omega, hac.out⟩, by omega, by omega, hs0, hwf.out⟩
end Go.Proofs.YtllkemadaemjeaaGreatDoor

/- The generator PostsOf. -/
namespace Go.Proofs.YtllkemadaemjeaaGreatDoor
open Go.RowKit

/-- What lies so stays under But, where it lies behind the stream. -/
theorem QAcc.staysB {α : Type} {R : Rel α} (ok : R.Ok) (sz : Nat) (T : TypeId) (B : Nat) (xs : List α) (s : Nat) (h : s < B) : Stays (But s) (QAcc R sz T B xs) :=
  fun _ _ _ k ⟨p, c, h1, h2⟩ => ⟨p, c, h1, h2.keep ok k (fun _ h => h.elim) (fun j hj => by have := (h2.lt j hj).1; omega)⟩
theorem QIs.staysB (u : Value) (s : Nat) : Stays (But s) (QIs u) := fun _ _ _ _ h => h
def QBool (v : Value) (_ : World) : Prop := ∃ r : Bool, v = .bool r
theorem QBool.staysB (s : Nat) : Stays (But s) QBool := fun _ _ _ _ h => h
def QRowB (s : Nat) (cs : Array Value) (T : TypeId) (v : Value) (w : World) : Prop := ∃ b, v = .slice (some ⟨b, 0, none⟩) 1 1 ∧ b ≠ s ∧ w.heap[b]? = some (.cells cs T (0, 0))
theorem QRowB.stays (s : Nat) (cs : Array Value) (T : TypeId) : Stays (But s) (QRowB s cs T) := fun _ _ _ k ⟨b, h1, h2, h3⟩ => ⟨b, h1, h2, k.heap h3 h2⟩

def QHdr (n : Nat) (v : Value) (_ : World) : Prop := ∃ p c, v = .slice p n c
theorem QHdr.staysB (n s : Nat) : Stays (But s) (QHdr n) := fun _ _ _ _ h => h
def QHd1 (v : Value) (_ : World) : Prop := ∃ b, v = .slice (some ⟨b, 0, none⟩) 1 1
theorem QHd1.staysB (s : Nat) : Stays (But s) QHd1 := fun _ _ _ _ h => h
/-- What holds while the region's operations come up: what the clone and the new row read, until the one is appended to the other. -/
def GP (σ : St) (n4 : Nat) (wA : World) (xs : List Post6) (cs : Array Value) (k : Nat) (L : Nat → Bool) (a : Act) (w : World) : Prop :=
  (∃ n', Str σ w n' ∧ n4 ≤ n' ∧ n' ≤ n4 + k ∧ But σ.b wA w) ∧ (L 8 = false → L 5 = true → a.tmps.getD 77 undef = undef ∨ QAcc RPost 6 58 wA.heap.size xs (a.tmps.getD 77 undef) w) ∧ (L 8 = false → L 7 = true → a.tmps.getD 79 undef = undef ∨ QRowB σ.b cs 58 (a.tmps.getD 79 undef) w)
theorem GP.step {σ : St} {n4 : Nat} {wA : World} {xs : List Post6} {cs : Array Value} {k : Nat} {L : Nat → Bool} {a : Act} {w : World} (h : GP σ n4 wA xs cs k L a w) (i t : Nat) (v : Value) (w' : World) (hl : σ.b < wA.heap.size) (ht : t < a.tmps.size) (hb : i ≠ 8 → But σ.b w w')
    (hn : ∃ n', Str σ w' n' ∧ n4 ≤ n' ∧ n' ≤ n4 + (k + 1) ∧ But σ.b wA w') (h5 : i ≠ 8 → t = 77 → v = undef ∨ QAcc RPost 6 58 wA.heap.size xs v w') (h7 : i ≠ 8 → t = 79 → v = undef ∨ QRowB σ.b cs 58 v w') (h5' : i = 5 → t = 77) (h7' : i = 7 → t = 79) :
    GP σ n4 wA xs cs (k + 1) (fun j => if j = i then true else L j) (a.put (some t) v) w' := by
  have same : (a.put (some t) v).tmps.getD t undef = v := by simp [Act.put, Array.getD_eq_getD_getElem?, ht]
  obtain ⟨-, g5, g7⟩ := h
  refine ⟨hn, fun e8 e5 => ?_, fun e8 e7 => ?_⟩
  · replace e8 : (if 8 = i then true else L 8) = false := e8
    replace e5 : (if 5 = i then true else L 5) = true := e5
    by_cases hi8 : 8 = i
    · rw [if_pos hi8] at e8; cases e8
    · rw [if_neg hi8] at e8
      by_cases h77 : t = 77
      · subst h77; rw [same]; exact h5 (fun h => hi8 h.symm) rfl
      · rw [put_other v h77]
        rw [if_neg (fun h => h77 (h5' h.symm))] at e5
        exact (g5 e8 e5).imp id (QAcc.staysB RPost.ok 6 58 wA.heap.size xs σ.b hl _ _ _ (hb (fun h => hi8 h.symm)))
  · replace e8 : (if 8 = i then true else L 8) = false := e8
    replace e7 : (if 7 = i then true else L 7) = true := e7
    by_cases hi8 : 8 = i
    · rw [if_pos hi8] at e8; cases e8
    · rw [if_neg hi8] at e8
      by_cases h79 : t = 79
      · subst h79; rw [same]; exact h7 (fun h => hi8 h.symm) rfl
      · rw [put_other v h79]
        rw [if_neg (fun h => h79 (h7' h.symm))] at e7
        exact (g7 e8 e7).imp id (QRowB.stays σ.b cs 58 _ _ _ (hb (fun h => hi8 h.symm)))

def IsPosts (B mx : Nat) (v : Value) (w : World) : Prop := ∃ xs : List Post6, xs.length ≤ mx ∧ Acc RPost 6 58 (fun _ => False) B w v xs
/-- A post is being made in block pb; the row v is as it was. -/
def MakeP (σ : St) (pb n3 c : Nat) (w2 : World) (v : Value) (xs : List Post6) (wx : World) : Prop :=
  ∃ (y : Post6) (n' : Nat), PostSmall y ∧ wx.heap[pb]? = some (.cells #[.int .i64 y.no, .int .i64 y.tm, .string y.paper, .string y.person, .int .i64 y.ans, .string y.words] 58 (0, 0)) ∧ Str σ wx n' ∧ n3 ≤ n' ∧ n' ≤ n3 + c ∧ But σ.b w2 wx ∧ Acc RPost 6 58 (fun _ => False) w2.heap.size wx v xs

set_option maxRecDepth 100000 in
set_option maxHeartbeats 12800000 in
theorem postsOf_any (a0 : Option Addr) (l0 c0 : Nat) (a1 : Option Addr) (l1 c1 : Nat) (a2 : Option Addr) (l2 c2 : Nat) (a3 : Option Addr) (l3 c3 : Nat) (b : Board4) (M : Nat) (σ : St) (n : Nat) (w : World) (hs : Str σ w n) (hn : n ≤ 4611686018427200000) (hM : M ≤ 12) (hbd : ∀ wx, But σ.b w wx → BoardIs wx a0 l0 a1 l1 a2 l2 a3 l3 b) (hc3 : l3 ≤ c3) (hg : ∀ wx, But σ.b w wx → Tabs wx) :
    Calls Tryz.prog 21 #[.pointer (some ⟨σ.b, 0, none⟩), .agg #[.slice a0 l0 c0, .slice a1 l1 c1, .slice a2 l2 c2, .slice a3 l3 c3], .int .i64 M] w (StPost σ n 400 w (IsPosts w.heap.size 12)) := by
  have hlt := hs.lt
  have hk1 : But σ.b w (w.alloc (.cells #[.slice a0 l0 c0, .slice a1 l1 c1, .slice a2 l2 c2, .slice a3 l3 c3] 50)) := Kept.alloc _ _ _
  have hs1 := hs.keep (Kept.alloc (fun _ => True) w (.cells #[.slice a0 l0 c0, .slice a1 l1 c1, .slice a2 l2 c2, .slice a3 l3 c3] 50))
  have hB := heap_at w (.cells #[.slice a0 l0 c0, .slice a1 l1 c1, .slice a2 l2 c2, .slice a3 l3 c3] 50) _ rfl
  obtain ⟨bb, hbb⟩ : ∃ k, k = w.heap.size := ⟨_, rfl⟩
  have HBB := Lib.hid hbb
  rw [← hbb] at hB
  have hbs : bb ≠ σ.b := by omega
  have HC := Lib.hid (fun (wx : World) (k : But σ.b (w.alloc (.cells #[.slice a0 l0 c0, .slice a1 l1 c1, .slice a2 l2 c2, .slice a3 l3 c3] 50)) wx) => (⟨k.cell (cell_at (i := 0) hB rfl) hbs, k.cell (cell_at (i := 1) hB rfl) hbs, k.cell (cell_at (i := 2) hB rfl) hbs, k.cell (cell_at (i := 3) hB rfl) hbs⟩ : _ ∧ _ ∧ _ ∧ _))
  have HBD := Lib.hid (fun (wx : World) (k : But σ.b (w.alloc (.cells #[.slice a0 l0 c0, .slice a1 l1 c1, .slice a2 l2 c2, .slice a3 l3 c3] 50)) wx) => hbd wx (hk1.trans k))
  have HG := Lib.hid (fun (wx : World) (k : But σ.b (w.alloc (.cells #[.slice a0 l0 c0, .slice a1 l1 c1, .slice a2 l2 c2, .slice a3 l3 c3] 50)) wx) => hg wx (hk1.trans k))
  have hsq : w.heap.size ≤ (w.alloc (.cells #[.slice a0 l0 c0, .slice a1 l1 c1, .slice a2 l2 c2, .slice a3 l3 c3] 50)).heap.size := by simp
  obtain ⟨m1, hm1⟩ : ∃ m, m = n := ⟨_, rfl⟩
  rw [← hm1] at hs1
  have HK1 := Lib.hid hk1
  clear hB hbd hg hs hbb hk1
  go_enter Tryz.func21, Tryz.ntmps21
  go_upto_region 3 with fail
  simp only [← HBB.out]
  generalize w.alloc (.cells #[.slice a0 l0 c0, .slice a1 l1 c1, .slice a2 l2 c2, .slice a3 l3 c3] 50) = wq at *
  have hlq := hs1.lt
  go_wp2_with fail
  go_loopw [7, 8, 11] (fun o q i wr => ∃ k : Nat, k ≤ M ∧ i = .int .i64 k ∧ ∃ (xs : List Post6) (n' tm : Nat), q = .int .i64 tm ∧ tm ≤ 10 * k ∧ xs.length ≤ k ∧ Acc RPost 6 58 (fun _ => False) wq.heap.size wr o xs ∧ Str σ wr n' ∧ m1 ≤ n' ∧ n' ≤ m1 + 30 * k ∧ But σ.b wq wr) (fun _ _ i _ => M - (intOf i).toNat)
  case atStart => exact ⟨0, Nat.zero_le _, rfl, [], m1, 0, rfl, by omega, Nat.le_refl _, Acc.nil _ _ _ _ _ _, hs1, Nat.le_refl _, by omega, Kept.refl _ _⟩
  case round =>
    clear hs1
    obtain ⟨k, hk, rfl, xs, n0, tm, rfl, htm, hxl, ac0, hs0, hn1, hn2, hw0⟩ := hrel
    obtain ⟨w0, rfl⟩ : ∃ wo : World, wo = wr := ⟨_, rfl⟩
    obtain ⟨av, cv, rfl, hcv⟩ := ac0.form
    obtain ⟨m, hm⟩ : ∃ m, m = xs.length := ⟨_, rfl⟩
    have HM := Lib.hid hm
    rw [← hm] at ac0 hcv hxl ⊢
    clear hm
    by_cases hlt2 : k < M
    · have hl0 := hs0.lt
      go_wp2_with fail
      refine (pick_any σ n0 _ 4 4 [0, 1, 5, 10] _ (hs0.keep (Kept.alloc _ _ _)) (by omega) (Sl.lit_ints _ (heap_at w0 _ _ rfl) rfl (by have := hs0.lt; omega)) (by omega) (by omega)).mono ?_
      rintro e w1 ⟨v, n1, rfl, ⟨z1, rfl, hz1⟩, hA1, hB1, hs1, hb1⟩
      have hw1 := (hw0.then_alloc _).trans hb1
      have ac1 := (ac0.keepAll RPost.ok ((Kept.refl _ _).then_alloc _)).keep RPost.ok hb1 (fun _ h => h.elim) (fun k hk => by have := (ac0.lt k hk).1; omega)
      clear hs0 hb1 hw0 ac0
      have hl1 := hs1.lt
      obtain ⟨d1, hd1, hd1b⟩ : ∃ d : Nat, z1 = (d : Int) ∧ d ≤ 10 := by
        simp only [List.mem_cons, List.not_mem_nil, or_false] at hz1
        exact ⟨z1.toNat, by omega, by omega⟩
      subst hd1
      clear hz1
      go_wp2_with fail
      refine (some10_any σ n1 _ 4 4 [⟨#[112, 97]⟩, ⟨#[112, 97]⟩, ⟨#[112, 98]⟩, ⟨#[112, 99]⟩] _ (hs1.keep (Kept.alloc _ _ _)) (by omega) (Sl.lit_strs _ (heap_at w1 _ _ rfl) rfl (by have := hs1.lt; omega)) (by omega) (by omega)).mono ?_
      rintro e w2 ⟨v, n2, rfl, ⟨y2, rfl, -, hy2⟩, hA2, hB2, hs2, hb2⟩
      have hw2 := (hw1.then_alloc _).trans hb2
      have ac2 := (ac1.keepAll RPost.ok ((Kept.refl _ _).then_alloc _)).keep RPost.ok hb2 (fun _ h => h.elim) (fun k hk => by have := (ac1.lt k hk).1; omega)
      clear hs1 hb2 hw1 ac1
      have hl2 := hs2.lt
      go_wp2_with fail
      refine (some10_any σ n2 _ 5 5 [⟨#[97, 110, 110]⟩, ⟨#[98, 111, 98]⟩, ⟨#[99, 105, 100]⟩, ⟨#[100, 101, 101]⟩, ⟨#[101, 118, 101]⟩] _ (hs2.keep (Kept.alloc _ _ _)) (by omega) (Sl.lit_strs _ (heap_at w2 _ _ rfl) rfl (by have := hs2.lt; omega)) (by omega) (by omega)).mono ?_
      rintro e w3 ⟨v, n3, rfl, ⟨y3, rfl, -, hy3⟩, hA3, hB3, hs3, hb3⟩
      have hw3 := (hw2.then_alloc _).trans hb3
      have ac3 := (ac2.keepAll RPost.ok ((Kept.refl _ _).then_alloc _)).keep RPost.ok hb3 (fun _ h => h.elim) (fun k hk => by have := (ac2.lt k hk).1; omega)
      clear hs2 hb3 hw2 ac2
      have hl3 := hs3.lt
      go_wp2_with fail
      refine (range_any σ n3 0 m _ hs3 (by omega) (by omega) (by omega) (by omega)).mono ?_
      rintro e w4 ⟨v, n4, rfl, ⟨z4, rfl, hz4a, hz4b⟩, hA4, hB4, hs4, hb4⟩
      have hw4 := (hw3).trans hb4
      have ac4 := ac3.keep RPost.ok hb4 (fun _ h => h.elim) (fun k hk => by have := (ac3.lt k hk).1; omega)
      clear hs3 hb4 hw3 ac3
      have hl4 := hs4.lt
      go_wp2_with fail
      refine (some10_any σ n4 _ 3 3 [⟨#[97, 10]⟩, ⟨#[111, 110, 101, 10, 116, 119, 111, 10]⟩, ⟨#[10]⟩] _ (hs4.keep (Kept.alloc _ _ _)) (by omega) (Sl.lit_strs _ (heap_at w4 _ _ rfl) rfl (by have := hs4.lt; omega)) (by omega) (by omega)).mono ?_
      rintro e w5 ⟨v, n5, rfl, ⟨y5, rfl, -, hy5⟩, hA5, hB5, hs5, hb5⟩
      have hw5 := (hw4.then_alloc _).trans hb5
      have ac5 := (ac4.keepAll RPost.ok ((Kept.refl _ _).then_alloc _)).keep RPost.ok hb5 (fun _ h => h.elim) (fun k hk => by have := (ac4.lt k hk).1; omega)
      clear hs4 hb5 hw4 ac4
      have hl5 := hs5.lt
      have hs6 := hs5.keep (Kept.alloc (fun _ => True) w5 (.cells #[.int .i64 ((m : Int) + 1), .int .i64 ((tm : Int) + (d1 : Int)), .string y2, .string y3, .int .i64 z4, .string y5] 58))
      have hw6 : But σ.b wq (w5.alloc (.cells #[.int .i64 ((m : Int) + 1), .int .i64 ((tm : Int) + (d1 : Int)), .string y2, .string y3, .int .i64 z4, .string y5] 58)) := hw5.then_alloc _
      have ac6 := ac5.keepAll RPost.ok (Kept.alloc (fun _ => True) w5 (.cells #[.int .i64 ((m : Int) + 1), .int .i64 ((tm : Int) + (d1 : Int)), .string y2, .string y3, .int .i64 z4, .string y5] 58))
      have bk6 := heap_at w5 (.cells #[.int .i64 ((m : Int) + 1), .int .i64 ((tm : Int) + (d1 : Int)), .string y2, .string y3, .int .i64 z4, .string y5] 58) _ rfl
      obtain ⟨pb, hpb⟩ : ∃ pb, pb = w5.heap.size := ⟨_, rfl⟩
      have HPB := Lib.hid hpb
      rw [← hpb] at bk6
      have hacl := Lib.hid (fun k hk => (ac5.lt k hk).2)
      have hps : pb ≠ σ.b := by omega
      have hszi := hw5.size
      have hpw : wq.heap.size ≤ pb := by omega
      have hna : ∀ k, (Value.slice av m cv).ownBlock = some k → k ≠ pb := fun k hk => by have := hacl.out k hk; omega
      have hsb : σ.b < pb := by omega
      have HNA := Lib.hid hna
      have hyp := Lib.hid (show PostSmall ⟨(m : Int) + 1, (tm : Int) + (d1 : Int), y2, y3, z4, y5⟩ from ⟨hy2, hy3, hy5⟩)
      clear hs5 hw5 ac5 hpb hacl hna hy2 hy3 hy5 hcv
      obtain ⟨n6, hnn6⟩ : ∃ m, m = n5 := ⟨_, rfl⟩
      rw [← hnn6] at hs6
      go_wp2_with fail
      simp only [← HPB.out]
      generalize w5.alloc (.cells #[.int .i64 ((m : Int) + 1), .int .i64 ((tm : Int) + (d1 : Int)), .string y2, .string y3, .int .i64 z4, .string y5] 58) = w6 at *
      have hl6 := hs6.lt
      refine (flip_any σ n6 30 _ hs6 (by omega) (by omega) (by omega)).mono ?_
      rintro e w7 ⟨v, n7, rfl, ⟨fb, rfl⟩, hA7, hB7, hs7, hb7⟩
      have hw7 := (hw6).trans hb7
      have ac7 := ac6.keep RPost.ok hb7 (fun _ h => h.elim) (fun k hk => by have := (ac6.lt k hk).1; omega)
      have bk7 := hb7.heap bk6 hps
      clear hs6 hb7 hw6 ac6 bk6
      have hl7 := hs7.lt
      have hnA : m1 ≤ n7 := by omega
      have hnB : n7 ≤ m1 + 30 * k + 6 := by omega
      obtain ⟨n3, hn3⟩ : ∃ q, q = n7 := ⟨_, rfl⟩
      rw [← hn3] at hnA hnB
      have hz0 : n7 ≤ n3 + 0 := by omega
      have hz1 : n3 ≤ n7 := by omega
      go_upto_if 37 with fail
      go_cut [] (fun wx => MakeP σ pb n3 10 wq (.slice av m cv) xs wx)
      case first =>
        cases fb with
        | false =>
          have hfin := Lib.hid (show MakeP σ pb n3 10 wq (.slice av m cv) xs _ from ⟨⟨(m : Int) + 1, (tm : Int) + (d1 : Int), y2, y3, z4, y5⟩, n7, hyp.out, bk7, hs7, by omega, by omega, hw7, ac7⟩)
          clear bk7 hs7 hw7 ac7
          go_wp2_with fail
          go_meet
          exact hfin.out
        | true =>
          go_wp2_with fail
          refine (next_any σ n7 4 _ hs7 (by omega) (by omega) (by omega)).mono ?_
          rintro e w8 ⟨v, n8, rfl, ⟨r6, rfl, hr6a, hr6b⟩, hA8, hB8, hs8, hb8⟩
          have hw8 := (hw7).trans hb8
          have ac8 := ac7.keep RPost.ok hb8 (fun _ h => h.elim) (fun k hk => by have := (ac7.lt k hk).1; omega)
          have bk8 := hb8.heap bk7 hps
          clear hs7 hb8 hw7 ac7 bk7
          have hl8 := hs8.lt
          have hr6 : r6 = 0 ∨ r6 = 1 ∨ r6 = 2 ∨ r6 = 3 := by omega
          clear hr6a hr6b
          rcases hr6 with rfl | rfl | rfl | rfl
          · go_wp2_with fail
            refine (odd10_any σ n8 1 9 _ hs8 (by omega) (by omega) (by omega) (by omega)).mono ?_
            rintro e w9 ⟨v, n9, rfl, ⟨x7, rfl, hx7⟩, hA9, hB9, hs9, hb9⟩
            have hw9 := (hw8).trans hb9
            have ac9 := ac8.keep RPost.ok hb9 (fun _ h => h.elim) (fun k hk => by have := (ac8.lt k hk).1; omega)
            have bk9 := hb9.heap bk8 hps
            clear hs8 hb9 hw8 ac8 bk8
            have hl9 := hs9.lt
            clear hx7
            go_wp2_with fail
            refine (odd10_any σ n9 0 100 _ hs9 (by omega) (by omega) (by omega) (by omega)).mono ?_
            rintro e w10 ⟨v, n10, rfl, ⟨x8, rfl, hx8⟩, hA10, hB10, hs10, hb10⟩
            have hw10 := (hw9).trans hb10
            have ac10 := ac9.keep RPost.ok hb10 (fun _ h => h.elim) (fun k hk => by have := (ac9.lt k hk).1; omega)
            have bk10 := hb10.heap bk9 hps
            clear hs9 hb10 hw9 ac9 bk9
            have hl10 := hs10.lt
            clear hx8
            have q0 := cell_at (i := 0) bk10 rfl
            have f0 := frozen_at (i := 0) bk10
            have q1 := cell_at (i := 1) bk10 rfl
            have f1 := frozen_at (i := 1) bk10
            have bkf := (heap_setCell_at _ pb 1 (.int .i64 x8) _ _ _ (heap_setCell_at _ pb 0 (.int .i64 x7) _ _ _ bk10))
            simp only [List.setIfInBounds_toArray, List.set_cons_zero, List.set_cons_succ] at bkf
            have hfin := Lib.hid (show MakeP σ pb n3 10 wq (.slice av m cv) xs _ from ⟨⟨x7, x8, y2, y3, z4, y5⟩, n10, hyp.out, bkf, ((hs10.set ⟨pb, 0, none⟩ (.int .i64 x7) hsb).set ⟨pb, 1, none⟩ (.int .i64 x8) hsb), by omega, by omega, ((hw10.then_setNew ⟨pb, 0, none⟩ (.int .i64 x7) hpw).then_setNew ⟨pb, 1, none⟩ (.int .i64 x8) hpw), ac10.keep RPost.ok (((Kept.refl (fun k => k ≠ pb) w10).then_setCell ⟨pb, 0, none⟩ (.int .i64 x7) (by simp)).then_setCell ⟨pb, 1, none⟩ (.int .i64 x8) (by simp)) (fun _ h => h.elim) (fun k hk => HNA.out k hk)⟩)
            clear bk10 hs10 hw10 ac10 bkf
            go_wp2_with fail
            go_meet
            exact hfin.out
          · go_wp2_with fail
            refine (some10_any σ n8 _ 2 2 [⟨#[112, 97]⟩, ⟨#[65]⟩] _ (hs8.keep (Kept.alloc _ _ _)) (by omega) (Sl.lit_strs _ (heap_at w8 _ _ rfl) rfl (by have := hs8.lt; omega)) (by omega) (by omega)).mono ?_
            rintro e w9 ⟨v, n9, rfl, ⟨x7, rfl, -, hx7⟩, hA9, hB9, hs9, hb9⟩
            have hw9 := (hw8.then_alloc _).trans hb9
            have ac9 := (ac8.keepAll RPost.ok ((Kept.refl _ _).then_alloc _)).keep RPost.ok hb9 (fun _ h => h.elim) (fun k hk => by have := (ac8.lt k hk).1; omega)
            have bk9 := hb9.heap (heap_old _ bk8) hps
            clear hs8 hb9 hw8 ac8 bk8
            have hl9 := hs9.lt
            go_wp2_with fail
            refine (some10_any σ n9 _ 2 2 [⟨#[122, 101, 100]⟩, ⟨#[]⟩] _ (hs9.keep (Kept.alloc _ _ _)) (by omega) (Sl.lit_strs _ (heap_at w9 _ _ rfl) rfl (by have := hs9.lt; omega)) (by omega) (by omega)).mono ?_
            rintro e w10 ⟨v, n10, rfl, ⟨x8, rfl, -, hx8⟩, hA10, hB10, hs10, hb10⟩
            have hw10 := (hw9.then_alloc _).trans hb10
            have ac10 := (ac9.keepAll RPost.ok ((Kept.refl _ _).then_alloc _)).keep RPost.ok hb10 (fun _ h => h.elim) (fun k hk => by have := (ac9.lt k hk).1; omega)
            have bk10 := hb10.heap (heap_old _ bk9) hps
            clear hs9 hb10 hw9 ac9 bk9
            have hl10 := hs10.lt
            have q2 := cell_at (i := 2) bk10 rfl
            have f2 := frozen_at (i := 2) bk10
            have q3 := cell_at (i := 3) bk10 rfl
            have f3 := frozen_at (i := 3) bk10
            have bkf := (heap_setCell_at _ pb 3 (.string x8) _ _ _ (heap_setCell_at _ pb 2 (.string x7) _ _ _ bk10))
            simp only [List.setIfInBounds_toArray, List.set_cons_zero, List.set_cons_succ] at bkf
            have hfin := Lib.hid (show MakeP σ pb n3 10 wq (.slice av m cv) xs _ from ⟨⟨(m : Int) + 1, (tm : Int) + (d1 : Int), x7, x8, z4, y5⟩, n10, ⟨hx7, hx8, hyp.out.2.2⟩, bkf, ((hs10.set ⟨pb, 2, none⟩ (.string x7) hsb).set ⟨pb, 3, none⟩ (.string x8) hsb), by omega, by omega, ((hw10.then_setNew ⟨pb, 2, none⟩ (.string x7) hpw).then_setNew ⟨pb, 3, none⟩ (.string x8) hpw), ac10.keep RPost.ok (((Kept.refl (fun k => k ≠ pb) w10).then_setCell ⟨pb, 2, none⟩ (.string x7) (by simp)).then_setCell ⟨pb, 3, none⟩ (.string x8) (by simp)) (fun _ h => h.elim) (fun k hk => HNA.out k hk)⟩)
            clear bk10 hs10 hw10 ac10 bkf
            go_wp2_with fail
            go_meet
            exact hfin.out
          · go_wp2_with fail
            refine (odd10_any σ n8 0 9 _ hs8 (by omega) (by omega) (by omega) (by omega)).mono ?_
            rintro e w9 ⟨v, n9, rfl, ⟨x7, rfl, hx7⟩, hA9, hB9, hs9, hb9⟩
            have hw9 := (hw8).trans hb9
            have ac9 := ac8.keep RPost.ok hb9 (fun _ h => h.elim) (fun k hk => by have := (ac8.lt k hk).1; omega)
            have bk9 := hb9.heap bk8 hps
            clear hs8 hb9 hw8 ac8 bk8
            have hl9 := hs9.lt
            clear hx7
            have q4 := cell_at (i := 4) bk9 rfl
            have f4 := frozen_at (i := 4) bk9
            have bkf := (heap_setCell_at _ pb 4 (.int .i64 x7) _ _ _ bk9)
            simp only [List.setIfInBounds_toArray, List.set_cons_zero, List.set_cons_succ] at bkf
            have hfin := Lib.hid (show MakeP σ pb n3 10 wq (.slice av m cv) xs _ from ⟨⟨(m : Int) + 1, (tm : Int) + (d1 : Int), y2, y3, x7, y5⟩, n9, hyp.out, bkf, (hs9.set ⟨pb, 4, none⟩ (.int .i64 x7) hsb), by omega, by omega, (hw9.then_setNew ⟨pb, 4, none⟩ (.int .i64 x7) hpw), ac9.keep RPost.ok ((Kept.refl (fun k => k ≠ pb) w9).then_setCell ⟨pb, 4, none⟩ (.int .i64 x7) (by simp)) (fun _ h => h.elim) (fun k hk => HNA.out k hk)⟩)
            clear bk9 hs9 hw9 ac9 bkf
            go_wp2_with fail
            go_meet
            exact hfin.out
          · go_wp2_with fail
            refine (pick_any σ n8 _ 2 2 [3999, 4000] _ (hs8.keep (Kept.alloc _ _ _)) (by omega) (Sl.lit_ints _ (heap_at w8 _ _ rfl) rfl (by have := hs8.lt; omega)) (by omega) (by omega)).mono ?_
            rintro e w9 ⟨v, n9, rfl, ⟨z7, rfl, hz7⟩, hA9, hB9, hs9, hb9⟩
            have hw9 := (hw8.then_alloc _).trans hb9
            have ac9 := (ac8.keepAll RPost.ok ((Kept.refl _ _).then_alloc _)).keep RPost.ok hb9 (fun _ h => h.elim) (fun k hk => by have := (ac8.lt k hk).1; omega)
            have bk9 := hb9.heap (heap_old _ bk8) hps
            clear hs8 hb9 hw8 ac8 bk8
            have hl9 := hs9.lt
            have hz7v : z7 = 3999 ∨ z7 = 4000 := by simpa using hz7
            obtain ⟨zn, hzn⟩ : ∃ zn : Nat, z7 = (zn : Int) := ⟨z7.toNat, by omega⟩
            subst hzn
            have hznb : zn ≤ 4000 := by omega
            clear hz7 hz7v
            go_wp2_with fail
            refine (repeat_any ⟨#[119]⟩ zn _ (by show 1 * zn ≤ _; omega) (by omega)).mono ?_
            rintro e w10 ⟨tt, rfl, htt, hq10⟩
            have hb10 : But σ.b w9 w10 := Kept.all hq10
            have hs10 := hs9.keep hq10
            have htt2 : tt.size ≤ 4000 := by have : (⟨#[119]⟩ : ByteArray).size = 1 := rfl; rw [this] at htt; omega
            obtain ⟨n10, hnn10⟩ : ∃ m, m = n9 := ⟨_, rfl⟩
            rw [← hnn10] at hs10
            have hnl : (⟨#[10]⟩ : ByteArray).size = 1 := rfl
            obtain ⟨t2, -, ht2, gcat⟩ := catR_run Tryz.prog tt ⟨#[10]⟩ (by omega)
            have ht3 : t2.size ≤ 1000000 := by omega
            clear htt ht2 hnl hq10
            have hw10 := (hw9).trans hb10
            have ac10 := ac9.keep RPost.ok hb10 (fun _ h => h.elim) (fun k hk => by have := (ac9.lt k hk).1; omega)
            have bk10 := hb10.heap bk9 hps
            clear hs9 hb10 hw9 ac9 bk9
            have hl10 := hs10.lt
            go_wp2_with fail
            refine (some10_any σ n10 _ 3 3 [⟨#[]⟩, ⟨#[120]⟩, t2] _ (hs10.keep (Kept.alloc _ _ _)) (by omega) (Sl.lit_strs' [⟨#[]⟩, ⟨#[120]⟩, t2] (heap_at w10 _ _ rfl) rfl (by have := hs10.lt; omega) (by intro s hs; simp only [List.mem_cons, List.not_mem_nil, or_false] at hs; rcases hs with rfl | rfl | rfl <;> first | exact ht3 | decide)) (by omega) (by omega)).mono ?_
            rintro e w11 ⟨v, n11, rfl, ⟨x8, rfl, -, hx8⟩, hA11, hB11, hs11, hb11⟩
            have hw11 := (hw10.then_alloc _).trans hb11
            have ac11 := (ac10.keepAll RPost.ok ((Kept.refl _ _).then_alloc _)).keep RPost.ok hb11 (fun _ h => h.elim) (fun k hk => by have := (ac10.lt k hk).1; omega)
            have bk11 := hb11.heap (heap_old _ bk10) hps
            clear hs10 hb11 hw10 ac10 bk10
            have hl11 := hs11.lt
            clear gcat
            have q5 := cell_at (i := 5) bk11 rfl
            have f5 := frozen_at (i := 5) bk11
            have bkf := (heap_setCell_at _ pb 5 (.string x8) _ _ _ bk11)
            simp only [List.setIfInBounds_toArray, List.set_cons_zero, List.set_cons_succ] at bkf
            have hfin := Lib.hid (show MakeP σ pb n3 10 wq (.slice av m cv) xs _ from ⟨⟨(m : Int) + 1, (tm : Int) + (d1 : Int), y2, y3, z4, x8⟩, n11, ⟨hyp.out.1, hyp.out.2.1, hx8⟩, bkf, (hs11.set ⟨pb, 5, none⟩ (.string x8) hsb), by omega, by omega, (hw11.then_setNew ⟨pb, 5, none⟩ (.string x8) hpw), ac11.keep RPost.ok ((Kept.refl (fun k => k ≠ pb) w11).then_setCell ⟨pb, 5, none⟩ (.string x8) (by simp)) (fun _ h => h.elim) (fun k hk => HNA.out k hk)⟩)
            clear bk11 hs11 hw11 ac11 bkf
            go_wp2_with fail
            go_meet
            exact hfin.out
      case rest =>
        clear bk7 hs7 hw7 ac7 hyp hz0 hz1 hn3 hl7
        obtain ⟨y, n4, hysm, bkA, hsA, hnC, hnD, hwA, acA⟩ := hcut
        obtain ⟨wA, rfl⟩ : ∃ q : World, q = wc := ⟨_, rfl⟩
        go_upto_region 16 with fail
        go_cut [83] (fun t wx => (∃ r : Bool, t = .bool r) ∧ ∃ n', Str σ wx n' ∧ n4 ≤ n' ∧ n' ≤ n4 + 10 ∧ But σ.b wA wx)
        case first =>
          have hlA := hsA.lt
          have hwAs := hwA.size
          obtain ⟨av', cv', hv', slA⟩ := acA.sl RPost.ok (by decide) (G := fun k => k ≠ σ.b) (fun _ h => h.elim) (fun k hk => by have := (acA.lt k hk).1; omega)
          rw [← HM.out] at hv' slA
          injection hv' with q1 q2 q3
          subst q1 q3
          clear q2
          have HSL := Lib.hid (fun (wx : World) (k : But σ.b wA wx) => (slA.keep RPost.ok k).mono RPost.ok (G := fun _ => True) (fun _ _ => trivial))
          have HCL := Lib.hid (fun (wx : World) (k : But σ.b wA wx) => clonePost_any av m cv xs wx (HSL.out wx k) (by omega))
          have HPF := Lib.hid (fun (wx : World) (k : But σ.b wA wx) (p : Option Addr) (c : Nat) (ys : List Post6) (hy : ys.length = m + 1) (hs : Sl RPost 6 (fun _ => True) wx p (m + 1) ys) (hc : m + 1 ≤ c) => postsFault_any a0 l0 c0 a1 l1 c1 a2 l2 c2 a3 l3 c3 b p (m + 1) c ys wx (HBD.out wx (hwA.trans k)) hc3 hs (by omega) hc (HG.out wx (hwA.trans k)))
          have HCC := Lib.hid (fun (wx : World) (k : But σ.b wA wx) => HC.out wx (hwA.trans k))
          have HPK := Lib.hid (fun (wx : World) (k : But σ.b wA wx) => k.heap bkA hps)
          have HMB := Lib.hid (show m ≤ 12 by omega)
          have HSA := Lib.hid hsA
          clear slA acA bkA hsA
          refine wp_region_guardL 9 2 74 false (by kernel_rfl) (by kernel_rfl) (by kernel_rfl) (GP σ n4 wA xs #[.int .i64 y.no, .int .i64 y.tm, .string y.paper, .string y.person, .int .i64 y.ans, .string y.words])
            (DL [QIs (.pointer (some ⟨σ.b, 0, none⟩)), QBool, QBool, QIs (.agg #[.slice a0 l0 c0, .slice a1 l1 c1, .slice a2 l2 c2, .slice a3 l3 c3]), QIs (.slice av m cv), QHdr xs.length, QIs (.agg #[.int .i64 y.no, .int .i64 y.tm, .string y.paper, .string y.person, .int .i64 y.ans, .string y.words]), QHd1, QAcc RPost 6 58 wA.heap.size (xs ++ [y])]) (fun j w w' => j ≠ 8 → But σ.b w w') (fun _ w _ => Kept.refl _ w)
            (fun i j v w1 w2 hi hj hij _ hm hd => ?_) ?_ ?_ (fun v w h => h) ?_ ?_
          · by_cases hj8 : j = 8
            · have hz : i = 0 ∨ i = 1 ∨ i = 2 ∨ i = 3 ∨ i = 4 ∨ i = 5 ∨ i = 6 ∨ i = 7 := by omega
              rcases hz with rfl | rfl | rfl | rfl | rfl | rfl | rfl | rfl <;> exact hd
            · exact DL.keep (M := But σ.b) (by simp only [List.forall_mem_cons, List.not_mem_nil, false_implies, implies_true, and_true]; exact ⟨QIs.staysB _ _, QBool.staysB _, QBool.staysB _, QIs.staysB _ _, QIs.staysB _ _, QHdr.staysB _ _, QIs.staysB _ _, QHd1.staysB _, QAcc.staysB RPost.ok _ _ _ _ _ hlA⟩) i v w1 w2 (hm hj8) hd
          · exact ⟨⟨n4, HSA.out.keep (Kept.drew _ _), Nat.le_refl _, by omega, Kept.drew _ _⟩, fun _ h => (by cases h), fun _ h => (by cases h)⟩
          · intro i t k' L a' wx hi hd _ hta hgg _
            have hgg2 := hgg
            obtain ⟨⟨n', h1, h2, h3, h4⟩, -, -⟩ := hgg2
            exact hgg.step i t undef wx hlA hta (fun _ => Kept.refl _ _) ⟨n', h1, h2, by omega, h4⟩ (fun _ _ => Or.inl rfl) (fun _ _ => Or.inl rfl) (fun h => by subst h; exact (Option.some.inj hd).symm) (fun h => by subst h; exact (Option.some.inj hd).symm)
          · intro i o t ho hd hi k' L a' wx hk' hgg hLi hdf hta hts hoth hLd hgu hdeps
            have hgg2 := hgg
            obtain ⟨⟨n', hst, hna, hnb, hbt⟩, hg5, hg7⟩ := hgg2
            have HGG := Lib.hid hgg
            clear hgg
            have hlx := hst.lt
            have hszx := hbt.size
            have hz : i = 0 ∨ i = 1 ∨ i = 2 ∨ i = 3 ∨ i = 4 ∨ i = 5 ∨ i = 6 ∨ i = 7 ∨ i = 8 := by omega
            rcases hz with rfl | rfl | rfl | rfl | rfl | rfl | rfl | rfl | rfl
            · obtain rfl := Option.some.inj ho
              obtain rfl := Option.some.inj hd
              have e0 : a'.tmps.getD 0 undef = .pointer (some ⟨σ.b, 0, none⟩) := tmp_of ((hoth 0 (by decide)).trans rfl)
              clear hoth hdeps hdf hts ho hgu hLd hLi hg5 hg7
              refine wp_via (fun K' hK => ?_)
              have HK := Lib.hid hK
              clear hK
              go_simp
              refine HK.out _ _ ⟨_, rfl, ?_, ?_, ?_⟩
              · exact HGG.out.step 0 72 _ _ hlA hta (fun _ => Kept.refl _ _) ⟨n', hst, hna, by omega, hbt⟩ (fun _ h => absurd h (by decide)) (fun _ h => absurd h (by decide)) (fun h => absurd h (by decide)) (fun h => absurd h (by decide))
              · exact fun _ => Kept.refl _ _
              · exact rfl
            · obtain rfl := Option.some.inj ho
              obtain rfl := Option.some.inj hd
              have e0 : a'.tmps.getD 72 undef = .pointer (some ⟨σ.b, 0, none⟩) := hdeps 0 (by decide) 72 rfl (fun h => by cases h)
              clear hoth hdeps hdf hts ho hgu hLd hLi hg5 hg7
              refine wp_via (fun K' hK => ?_)
              have HK := Lib.hid hK
              clear hK
              go_simp
              refine (flip_any σ n' 40 _ hst (by omega) (by omega) (by omega)).mono ?_
              rintro e w7 ⟨v, n7, rfl, ⟨r, rfl⟩, hA7, hB7, hs7, hb7⟩
              refine HK.out _ _ ⟨_, rfl, ?_, ?_, ?_⟩
              · exact HGG.out.step 1 73 _ _ hlA hta (fun _ => hb7) ⟨n7, hs7, by omega, by omega, hbt.trans hb7⟩ (fun _ h => absurd h (by decide)) (fun _ h => absurd h (by decide)) (fun h => absurd h (by decide)) (fun h => absurd h (by decide))
              · exact fun _ => hb7
              · exact ⟨r, rfl⟩
            · obtain rfl := Option.some.inj ho
              obtain rfl := Option.some.inj hd
              obtain ⟨r, e0⟩ : QBool (a'.tmps.getD 73 undef) wx := hdeps 1 (by decide) 73 rfl (fun h => by cases h)
              clear hoth hdeps hdf hts ho hgu hLd hLi hg5 hg7
              refine wp_via (fun K' hK => ?_)
              have HK := Lib.hid hK
              clear hK
              go_simp
              refine HK.out _ _ ⟨_, rfl, ?_, ?_, ?_⟩
              · exact HGG.out.step 2 74 _ _ hlA hta (fun _ => Kept.refl _ _) ⟨n', hst, hna, by omega, hbt⟩ (fun _ h => absurd h (by decide)) (fun _ h => absurd h (by decide)) (fun h => absurd h (by decide)) (fun h => absurd h (by decide))
              · exact fun _ => Kept.refl _ _
              · exact ⟨r, rfl⟩
            · obtain rfl := Option.some.inj ho
              obtain rfl := Option.some.inj hd
              obtain ⟨g0, g1, g2, g3⟩ := HCC.out wx hbt
              have e0 : a'.tmps.getD 4 undef = .pointer (some ⟨bb, 0, none⟩) := tmp_of ((hoth 4 (by decide)).trans rfl)
              clear hoth hdeps hdf hts ho hgu hLd hLi hg5 hg7
              refine wp_via (fun K' hK => ?_)
              have HK := Lib.hid hK
              clear hK
              go_simp
              refine HK.out _ _ ⟨_, rfl, ?_, ?_, ?_⟩
              · exact HGG.out.step 3 75 _ _ hlA hta (fun _ => Kept.refl _ _) ⟨n', hst, hna, by omega, hbt⟩ (fun _ h => absurd h (by decide)) (fun _ h => absurd h (by decide)) (fun h => absurd h (by decide)) (fun h => absurd h (by decide))
              · exact fun _ => Kept.refl _ _
              · exact rfl
            · obtain rfl := Option.some.inj ho
              obtain rfl := Option.some.inj hd
              have e0 : a'.tmps.getD 7 undef = .slice av m cv := tmp_of ((hoth 7 (by decide)).trans rfl)
              clear hoth hdeps hdf hts ho hgu hLd hLi hg5 hg7
              refine wp_via (fun K' hK => ?_)
              have HK := Lib.hid hK
              clear hK
              go_simp
              refine HK.out _ _ ⟨_, rfl, ?_, ?_, ?_⟩
              · exact HGG.out.step 4 76 _ _ hlA hta (fun _ => Kept.refl _ _) ⟨n', hst, hna, by omega, hbt⟩ (fun _ h => absurd h (by decide)) (fun _ h => absurd h (by decide)) (fun h => absurd h (by decide)) (fun h => absurd h (by decide))
              · exact fun _ => Kept.refl _ _
              · exact rfl
            · obtain rfl := Option.some.inj ho
              obtain rfl := Option.some.inj hd
              have e0 : a'.tmps.getD 76 undef = .slice av m cv := hdeps 4 (by decide) 76 rfl (fun _ => hgu rfl)
              clear hoth hdeps hdf hts ho hgu hLd hLi hg5 hg7
              refine wp_via (fun K' hK => ?_)
              have HK := Lib.hid hK
              clear hK
              go_simp
              refine (HCL.out wx hbt).mono ?_
              rintro e w7 ⟨p, c, rfl, hac, hw7⟩
              refine HK.out _ _ ⟨_, rfl, ?_, ?_, ?_⟩
              · exact HGG.out.step 5 77 _ _ hlA hta (fun _ => (Kept.all hw7)) ⟨n', hst.keep hw7, hna, by omega, hbt.trans (Kept.all hw7)⟩ (fun _ _ => Or.inr ⟨p, c, rfl, hac.base0 hszx⟩) (fun _ h => absurd h (by decide)) (fun _ => rfl) (fun h => absurd h (by decide))
              · exact fun _ => (Kept.all hw7)
              · exact ⟨p, c, rfl⟩
            · obtain rfl := Option.some.inj ho
              obtain rfl := Option.some.inj hd
              have hpx := HPK.out wx hbt
              have g0 := cell_at (i := 0) hpx rfl
              have g1 := cell_at (i := 1) hpx rfl
              have g2 := cell_at (i := 2) hpx rfl
              have g3 := cell_at (i := 3) hpx rfl
              have g4 := cell_at (i := 4) hpx rfl
              have g5 := cell_at (i := 5) hpx rfl
              clear hpx
              have e0 : a'.tmps.getD 9 undef = .pointer (some ⟨pb, 0, none⟩) := tmp_of ((hoth 9 (by decide)).trans rfl)
              clear hoth hdeps hdf hts ho hgu hLd hLi hg5 hg7
              refine wp_via (fun K' hK => ?_)
              have HK := Lib.hid hK
              clear hK
              go_simp
              refine HK.out _ _ ⟨_, rfl, ?_, ?_, ?_⟩
              · exact HGG.out.step 6 78 _ _ hlA hta (fun _ => Kept.refl _ _) ⟨n', hst, hna, by omega, hbt⟩ (fun _ h => absurd h (by decide)) (fun _ h => absurd h (by decide)) (fun h => absurd h (by decide)) (fun h => absurd h (by decide))
              · exact fun _ => Kept.refl _ _
              · exact rfl
            · obtain rfl := Option.some.inj ho
              obtain rfl := Option.some.inj hd
              have e0 : a'.tmps.getD 78 undef = .agg #[.int .i64 y.no, .int .i64 y.tm, .string y.paper, .string y.person, .int .i64 y.ans, .string y.words] := hdeps 6 (by decide) 78 rfl (fun _ => hgu rfl)
              have e0' : a'.tmps[78]?.getD undef = .agg #[.int .i64 y.no, .int .i64 y.tm, .string y.paper, .string y.person, .int .i64 y.ans, .string y.words] := by rw [← Array.getD_eq_getD_getElem?]; exact e0
              clear hoth hdeps hdf hts ho hgu hLd hLi hg5 hg7
              refine wp_via (fun K' hK => ?_)
              have HK := Lib.hid hK
              clear hK
              go_simp
              have hne : wx.heap.size ≠ σ.b := by omega
              have hrow : QRowB σ.b #[.int .i64 y.no, .int .i64 y.tm, .string y.paper, .string y.person, .int .i64 y.ans, .string y.words] 58 (.slice (some ⟨wx.heap.size, 0, none⟩) 1 1) (wx.alloc (.cells #[.int .i64 y.no, .int .i64 y.tm, .string y.paper, .string y.person, .int .i64 y.ans, .string y.words] 58)) := ⟨wx.heap.size, rfl, hne, heap_at _ _ _ rfl⟩
              refine HK.out _ _ ⟨_, rfl, ?_, ?_, ?_⟩
              · exact HGG.out.step 7 79 _ (wx.alloc (.cells #[.int .i64 y.no, .int .i64 y.tm, .string y.paper, .string y.person, .int .i64 y.ans, .string y.words] 58)) hlA hta (fun _ => (Kept.alloc _ _ _)) ⟨n', hst.keep (Kept.alloc _ _ _), hna, by omega, hbt.then_alloc _⟩ (fun _ h => absurd h (by decide)) (fun _ _ => Or.inr hrow) (fun h => absurd h (by decide)) (fun _ => rfl)
              · exact fun _ => (Kept.alloc _ _ _)
              · exact ⟨_, rfl⟩
            · obtain rfl := Option.some.inj ho
              obtain rfl := Option.some.inj hd
              obtain ⟨p5, c5, e77⟩ : QHdr xs.length (a'.tmps.getD 77 undef) wx := hdeps 5 (by decide) 77 rfl (fun _ => hgu rfl)
              obtain ⟨b9, e79⟩ : QHd1 (a'.tmps.getD 79 undef) wx := hdeps 7 (by decide) 79 rfl (fun _ => hgu rfl)
              have d5 := hg5 hLi (hLd 5 (by decide))
              have d7 := hg7 hLi (hLd 7 (by decide))
              rw [e77] at d5
              rw [e79] at d7
              clear hg5 hg7 hoth hdeps hdf hts ho hgu hLd hLi
              obtain ⟨p6, c6, q6, hac⟩ := d5.resolve_left (fun h => by cases h)
              injection q6 with q1 q2 q3
              subst q1 q3
              obtain ⟨b8, q7, hb9n, hb9⟩ := d7.resolve_left (fun h => by cases h)
              injection q7 with q1 _ _
              injection q1 with q1
              injection q1 with q1 _ _
              subst q1
              clear q2
              refine wp_via (fun K' hK => ?_)
              have HK := Lib.hid hK
              clear hK
              refine op_append1 RPost.ok wx _ _ _ rfl wA.heap.size 58 (.agg #[.int .i64 0, .int .i64 0, .string ⟨#[]⟩, .string ⟨#[]⟩, .int .i64 0, .string ⟨#[]⟩]) 6 72 Tryz.underlying52 (by kernel_rfl) rfl (by decide) (fun _ => False) _ xs e77 hac ⟨b9, 0, none⟩ 1 [.int .i64 y.no, .int .i64 y.tm, .string y.paper, .string y.person, .int .i64 y.ans, .string y.words] e79 rfl (World.news_of_block hb9) (by simp [Value.oneCell']) y ⟨rfl, hysm⟩ (by have := HM.out; have := HMB.out; omega) (by decide) hszx ?_
              intro p8 c8 w9 hac9 hg9 _
              have hk9 : Kept (fun k => k < wA.heap.size) wx w9 := (Kept.refl _ _).grown hg9 (fun k hk => Or.inr (by have := (hac.lt k hk).1; omega))
              have hb9' : But σ.b wA w9 := hbt.trans2 hk9 (fun i hi _ => hi)
              have hs9 := hst.kept hk9 (fun k hk => by omega)
              refine HK.out _ _ ⟨_, rfl, ?_, ?_, ?_⟩
              · exact HGG.out.step 8 80 _ w9 hlA hta (fun h => absurd rfl h) ⟨n', hs9, hna, by omega, hb9'⟩ (fun h => absurd rfl h) (fun h => absurd rfl h) (fun h => absurd h (by decide)) (fun h => absurd h (by decide))
              · exact fun h => absurd rfl h
              · exact ⟨p8, c8, by simp, by simpa using hac9⟩
          · intro wx f hgg hd
            obtain ⟨a', L, ⟨n', hst, hna, hnb, hbt⟩, -, -⟩ := hgg
            obtain ⟨r, e74⟩ : QBool (f 74) wx := hd 2 74 (by decide) rfl (fun h => by cases h)
            have h75 := hd 3 75 (by decide) rfl
            have h80 := hd 8 80 (by decide) rfl
            have hng : n' ≤ n4 + 10 := by omega
            cases r with
            | true =>
              clear hd h75 h80
              refine ⟨?_⟩
              rw [show dsts _ 9 = [72, 73, 74, 75, 76, 77, 78, 79, 80] from by kernel_rfl]
              simp only [List.map_cons, List.map_nil, puts, Act.put, e74, List.drop_succ_cons, List.drop_zero]
              generalize f 72 = f72
              generalize f 73 = f73
              generalize f 75 = f75
              generalize f 76 = f76
              generalize f 77 = f77
              generalize f 78 = f78
              generalize f 79 = f79
              generalize f 80 = f80
              go_simp
              go_wp2_with fail
              go_meet
              exact ⟨⟨_, rfl⟩, n', hst, hna, hng, hbt⟩
            | false =>
              have e75 : f 75 = .agg #[.slice a0 l0 c0, .slice a1 l1 c1, .slice a2 l2 c2, .slice a3 l3 c3] := h75 (fun _ => e74)
              obtain ⟨p8, c8, e80, hac9⟩ : QAcc RPost 6 58 wA.heap.size (xs ++ [y]) (f 80) wx := h80 (fun _ => e74)
              rw [List.length_append, ← HM.out] at e80 hac9
              simp only [List.length_cons, List.length_nil, Nat.zero_add] at e80 hac9
              have hmb := HMB.out
              clear hd h75 h80
              refine ⟨?_⟩
              rw [show dsts _ 9 = [72, 73, 74, 75, 76, 77, 78, 79, 80] from by kernel_rfl]
              simp only [List.map_cons, List.map_nil, puts, Act.put, e74, e75, e80, List.drop_succ_cons, List.drop_zero]
              clear e75 e80 e74
              generalize f 72 = f72
              generalize f 73 = f73
              generalize f 76 = f76
              generalize f 77 = f77
              generalize f 78 = f78
              generalize f 79 = f79
              go_simp
              obtain ⟨p8', c8', hv8, sl9⟩ := hac9.sl RPost.ok (by decide) (G := fun _ => True) (fun _ h => h.elim) (fun _ _ => trivial)
              obtain ⟨p8'', c8'', hv8b, hc8⟩ := hac9.form
              rw [List.length_append, ← HM.out] at hv8 sl9 hv8b hc8
              simp only [List.length_cons, List.length_nil, Nat.zero_add] at hv8 sl9 hv8b hc8
              injection hv8 with q1 q2 q3
              injection hv8b with q4 q5 q6
              subst q1 q3 q6
              clear q2 q4 q5
              have HPX := Lib.hid (HPF.out wx hbt p8 c8 (xs ++ [y]) (by simp [← HM.out]) sl9 hc8)
              clear hac9 sl9 hc8
              go_wp2_with fail
              refine HPX.out.mono ?_
              rintro e w10 ⟨rfl, hw10⟩
              obtain ⟨ep, hep⟩ : ∃ ep, ep = postsF b (xs ++ [y]) := ⟨_, rfl⟩
              rw [← hep]
              clear hep
              go_wp2_with fail
              go_meet
              exact ⟨⟨_, rfl⟩, n', hst.keep hw10, hna, hng, hbt.trans (Kept.all hw10)⟩
        case rest =>
          obtain ⟨⟨r, rfl⟩, n5, hs5, hnE, hnF, hb5⟩ := hcut
          obtain ⟨wB, rfl⟩ : ∃ q : World, q = wc := ⟨_, rfl⟩
          have hwB := hwA.trans hb5
          have acB := acA.keep RPost.ok hb5 (fun _ h => h.elim) (fun k hk => by have := (acA.lt k hk).1; have := hsA.lt; omega)
          have bkB := hb5.heap bkA hps
          clear hsA acA bkA hb5 hwA
          cases r with
          | false =>
            go_wp2_with fail
            go_roundw
            case rel => exact ⟨k + 1, by omega, by go_num, xs, n5, tm + d1, by go_num, by omega, by have := HM.out; omega, acB, hs5, by omega, by omega, hwB⟩
            case measure => simp [intOf]; omega
          | true =>
            have g0 := cell_at (i := 0) bkB rfl
            have g1 := cell_at (i := 1) bkB rfl
            have g2 := cell_at (i := 2) bkB rfl
            have g3 := cell_at (i := 3) bkB rfl
            have g4 := cell_at (i := 4) bkB rfl
            have g5 := cell_at (i := 5) bkB rfl
            have hkr := Lib.hid (fun k (hk : (Value.slice av m cv).ownBlock = some k) => (acB.lt k hk).1)
            have hszl := hwB.size
            clear bkB
            go_wp2_with (at_builtin; refine wp_append1 RPost.ok _ rfl _ _ 52 rfl wq.heap.size 58 (.agg #[.int .i64 0, .int .i64 0, .string ⟨#[]⟩, .string ⟨#[]⟩, .int .i64 0, .string ⟨#[]⟩]) 6 72 Tryz.underlying52 (by kernel_rfl) rfl (by decide) (fun _ => False) _ xs rfl (acB.keepAll RPost.ok (Kept.alloc _ _ _)) ⟨_, 0, none⟩ 1 [.int .i64 y.no, .int .i64 y.tm, .string y.paper, .string y.person, .int .i64 y.ans, .string y.words] rfl rfl (World.news_of_block (cs := #[.int .i64 y.no, .int .i64 y.tm, .string y.paper, .string y.person, .int .i64 y.ans, .string y.words]) (heap_at _ _ _ (by simp))) (by simp [Value.oneCell']) y ⟨rfl, hysm⟩ (by have := HM.out; omega) (by decide) (by simp; omega) ?_)
            intro p8 c8 w9 hac9 hgrow _
            have hk9 : Kept (fun k => (Value.slice av m cv).ownBlock ≠ some k) wB w9 := (Kept.grown (Kept.alloc _ _ _) hgrow (fun k hk => Or.inr (fun h => h hk)))
            have hw9 : But σ.b wq w9 := hwB.trans2 hk9 (fun i hi _ e => by have := hkr.out i e; omega)
            have hs9 := hs5.kept hk9 (fun k hk e => by have := hkr.out k e; omega)
            clear hgrow hk9 acB hs5 hwB g0 g1 g2 g3 g4 g5
            go_wp2_with fail
            go_roundw
            case rel => exact ⟨k + 1, by omega, by go_num, xs ++ [y], n5, tm + d1, by go_num, by omega, by have := HM.out; simp; omega, hac9, hs9, by omega, by omega, hw9⟩
            case measure => simp [intOf]; omega
    · have hdk : decide ((k : Int) < (M : Int)) = false := by simp; omega
      have hwf := Lib.hid (HK1.out.trans hw0)
      have hac := Lib.hid (ac0.base0 hsq)
      go_wp2_with fail
      go_ret
      exact ⟨_, n0, rfl, ⟨xs, by have := HM.out; omega, hac.out⟩, by omega, by omega, hs0, hwf.out⟩
end Go.Proofs.YtllkemadaemjeaaGreatDoor
