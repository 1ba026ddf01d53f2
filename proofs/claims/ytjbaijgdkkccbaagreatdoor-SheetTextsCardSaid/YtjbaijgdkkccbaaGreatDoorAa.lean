/- Where the first is that a predicate holds of; what makeFunc leaves. -/
import Derived.Test.YtjbaijgdkkccbaaGreatDoorZc
import Derived.Test.YtjbaijgdkkccbaaGreatDoorProg
import Derived.Test.YtjbaijgdkkccbaaGreatDoorDb
import Derived.Test.YtjbaijgdkkccbaaGreatDoorZn
namespace Go.Proofs.YtjbaijgdkkccbaaGreatDoor
open Go.RowKit

def findG {α : Type} (p : α → Bool) : Nat → List α → Int
  | _, [] => -1
  | k, s :: l => if p s = true then k else findG p (k + 1) l
theorem findG_neg {α : Type} {p : α → Bool} : ∀ {ss : List α} {k : Nat}, ss.any p = false → findG p k ss = -1
  | [], _, _ => rfl
  | s :: l, k, h => by
    simp only [List.any_cons, Bool.or_eq_false_iff] at h
    rw [findG, if_neg (by simp [h.1])]
    exact findG_neg h.2
theorem findG_append {α : Type} {p : α → Bool} : ∀ {a b : List α} {k : Nat}, a.any p = false → findG p k (a ++ b) = findG p (k + a.length) b
  | [], b, k, _ => by simp
  | s :: l, b, k, h => by
    simp only [List.any_cons, Bool.or_eq_false_iff] at h
    rw [List.cons_append, findG, if_neg (by simp [h.1]), findG_append h.2]
    simp only [List.length_cons]
    congr 1
    omega
theorem hmfC : ∀ (fn : Fn) (first cap : Array Value) (w : World), (Instr.makeFunc fn first cap).run Tryz.prog w = .ok (.func fn first cap) w := fun _ _ _ _ => rfl
end Go.Proofs.YtjbaijgdkkccbaaGreatDoor

/- Questions and answers: how they lie in memory, what is wrong with them, what is missing, what differs. No program in sight. -/
namespace Go.Proofs.YtjbaijgdkkccbaaGreatDoor
open Go.RowKit

structure Qst where
  key : ByteArray
  kind : Int
  most : Int
  opts : List ByteArray
  needed : Bool
  secret : Bool
def QstSmall (x : Qst) : Prop := x.key.size ≤ 1000000 ∧ x.opts.length ≤ 1000
/-- A question, as it is read. -/
def RQst : Rel Qst := fun F w vs x => ∃ a cap, vs = [.string x.key, .int .i64 x.kind, .int .i64 x.most, .slice a x.opts.length cap, .bool x.needed, .bool x.secret] ∧ x.opts.length ≤ cap ∧ QstSmall x ∧ Sl RStr 1 F w a x.opts.length x.opts
theorem RQst.ok : RQst.Ok := by
  refine ⟨?_, ?_, ?_⟩
  · rintro F w w' vs x hk ⟨a, cap, rfl, h0, h1, h3⟩
    exact ⟨a, cap, rfl, h0, h1, h3.keep RStr.ok hk⟩
  · rintro F G w vs x hk ⟨a, cap, rfl, h0, h1, h3⟩
    exact ⟨a, cap, rfl, h0, h1, h3.mono RStr.ok hk⟩
  · rintro F w vs x ⟨a, cap, rfl, h0, h1, h3⟩
    exact ⟨a, cap, rfl, h0, h1, h3.live RStr.ok (by decide)⟩
theorem Sl.atQst {F : Nat → Prop} {w : World} {a : Option Addr} {len : Nat} {xs : List Qst} (h : Sl RQst 6 F w a len xs) {k : Nat} (hk : k < len) :
    ∃ b off x oa oc, a = some ⟨b, off, none⟩ ∧ F b ∧ w.cell? ⟨b, off + k * 6, none⟩ = some (.string x.key) ∧ w.cell? ⟨b, off + k * 6 + 1, none⟩ = some (.int .i64 x.kind) ∧ w.cell? ⟨b, off + k * 6 + 2, none⟩ = some (.int .i64 x.most) ∧
      w.cell? ⟨b, off + k * 6 + 3, none⟩ = some (.slice oa x.opts.length oc) ∧ w.cell? ⟨b, off + k * 6 + 4, none⟩ = some (.bool x.needed) ∧ w.cell? ⟨b, off + k * 6 + 5, none⟩ = some (.bool x.secret) ∧
      x.opts.length ≤ oc ∧ QstSmall x ∧ Sl RStr 1 F w oa x.opts.length x.opts ∧ xs[k]? = some x ∧ xs.take (k + 1) = xs.take k ++ [x] := by
  obtain ⟨b, off, vs, x, ha, hF, h1, h2, ⟨oa, oc, rfl, hcp, hsm, hc⟩, h4, h5, h6⟩ := h.at hk
  exact ⟨b, off, x, oa, oc, ha, hF, (h2 0 (by simp)).trans rfl, (h2 1 (by simp)).trans rfl, (h2 2 (by simp)).trans rfl, (h2 3 (by simp)).trans rfl, (h2 4 (by simp)).trans rfl, (h2 5 (by simp)).trans rfl, hcp, hsm, hc, h4, h6⟩

structure Ans4 where
  question : ByteArray
  number : Int
  option : ByteArray
  words : ByteArray
def AnsSmall (x : Ans4) : Prop := x.question.size ≤ 1000000 ∧ x.option.size ≤ 1000000 ∧ x.words.size ≤ 1000000 ∧ -2000000000000 ≤ x.number ∧ x.number ≤ 2000000000000
def encAns (x : Ans4) : List Value := [.string x.question, .int .i64 x.number, .string x.option, .string x.words]
def RAns : Rel Ans4 := fun _ _ vs x => vs = encAns x ∧ AnsSmall x
theorem flatAns : Flat RAns encAns AnsSmall 4 :=
  ⟨fun _ _ _ _ => Iff.rfl, fun _ => rfl, by decide, fun x u hu => by simp [encAns] at hu; rcases hu with rfl | rfl | rfl | rfl <;> rfl⟩
theorem RAns.ok : RAns.Ok := Flat.ok flatAns
/-- The error of a question but for its key. -/
noncomputable def questF (q : Qst) : Int :=
  if q.kind < 1 ∨ 3 < q.kind then 4
  else if (q.kind = 1 ∧ (q.most < 1 ∨ 100 < q.most)) ∨ (q.kind = 3 ∧ (q.most < 1 ∨ 5000 < q.most)) then 1
  else if (q.kind = 2 ∧ q.most ≠ 0) ∨ ((q.kind = 2 ∧ q.opts.length = 0) ∨ (q.kind ≠ 2 ∧ q.opts.length ≠ 0)) then 3
  else if 20 < q.opts.length then 2 else orderG [] q.opts
def isQ (key : ByteArray) (q : Qst) : Bool := decide (q.key = key)
noncomputable def sheetG (all : List Qst) : Nat → List Qst → Int
  | _, [] => 0
  | i, q :: l => if isKeyB q.key = false then 5 else if findG (isQ q.key) 0 all < i then 6 else if questF q ≠ 0 then questF q else sheetG all (i + 1) l
noncomputable def sheetF (l : List Qst) : Int := if l.length = 0 then 3 else if 30 < l.length then 2 else sheetG l 0 l
theorem sheetG_cons (all : List Qst) (i : Nat) (q : Qst) (l : List Qst) : sheetG all i (q :: l) = if isKeyB q.key = false then 5 else if findG (isQ q.key) 0 all < i then 6 else if questF q ≠ 0 then questF q else sheetG all (i + 1) l := rfl
/-- The walk over a sheet up to place k has found nothing. -/
def SheetAt (xs : List Qst) (k : Nat) : Prop := sheetG xs 0 xs = sheetG xs k (xs.drop k)
section
variable {xs : List Qst} {k : Nat} {q : Qst}
theorem SheetAt.zero (xs : List Qst) : SheetAt xs 0 := by simp [SheetAt]
theorem SheetAt.name (h : SheetAt xs k) (hq : xs[k]? = some q) (h1 : isKeyB q.key = false) : sheetG xs 0 xs = 5 := by
  rw [h, drop_at hq, sheetG_cons, if_pos h1]
theorem SheetAt.twice (h : SheetAt xs k) (hq : xs[k]? = some q) (h1 : isKeyB q.key = true) (h2 : findG (isQ q.key) 0 xs < k) : sheetG xs 0 xs = 6 := by
  rw [h, drop_at hq, sheetG_cons, if_neg (by simp [h1]), if_pos h2]
theorem SheetAt.bad {e : Int} (h : SheetAt xs k) (hq : xs[k]? = some q) (h1 : isKeyB q.key = true) (h2 : ¬ findG (isQ q.key) 0 xs < k) (h3 : questF q = e) (he : e ≠ 0) : sheetG xs 0 xs = e := by
  rw [h, drop_at hq, sheetG_cons, if_neg (by simp [h1]), if_neg h2, h3, if_pos he]
theorem SheetAt.next (h : SheetAt xs k) (hq : xs[k]? = some q) (h1 : isKeyB q.key = true) (h2 : ¬ findG (isQ q.key) 0 xs < k) (h3 : questF q = 0) : SheetAt xs (k + 1) := by
  unfold SheetAt at *
  rw [h, drop_at hq, sheetG_cons, if_neg (by simp [h1]), if_neg h2, h3, if_neg (by simp)]
theorem SheetAt.ok (h : SheetAt xs k) (hk : xs.length ≤ k) : sheetG xs 0 xs = 0 := by
  rw [h, List.drop_of_length_le hk]; rfl
end
theorem sheetF_none {xs : List Qst} (h : xs.length = 0) : sheetF xs = 3 := by rw [sheetF, if_pos h]
theorem sheetF_large {xs : List Qst} (h : 30 < xs.length) : sheetF xs = 2 := by rw [sheetF, if_neg (by omega), if_pos h]
theorem sheetF_some {xs : List Qst} (h : ¬ xs.length = 0) (h2 : ¬ 30 < xs.length) : sheetF xs = sheetG xs 0 xs := by rw [sheetF, if_neg h, if_neg h2]

/-- What the kind of a question does not use is 0 or empty. -/
def spareOk (kind : Int) (a : Ans4) : Prop := if kind = 1 then a.option.size = 0 ∧ a.words.size = 0 else if kind = 2 then a.number = 0 ∧ a.words.size = 0 else a.number = 0 ∧ a.option.size = 0
open Classical in
/-- The error of an answer to a question. -/
noncomputable def answerF (q : Qst) (a : Ans4) : Int :=
  if ¬ spareOk q.kind a then 3
  else if q.kind = 1 ∧ (a.number < 0 ∨ q.most < a.number) then 1
  else if q.kind = 2 ∧ memB a.option q.opts = false then 8
  else if q.kind = 3 ∧ (a.words.size = 0 ∨ isTextB a.words = false) then 3
  else if q.kind = 3 ∧ q.most < (a.words.size : Int) then 2 else 0
noncomputable def answersG (sheet : List Qst) : Int → List Ans4 → Int
  | _, [] => 0
  | last, a :: l => match sheet.find? (isQ a.question) with
    | none => 8
    | some q => if findG (isQ a.question) 0 sheet ≤ last then 7 else if answerF q a ≠ 0 then answerF q a else answersG sheet (findG (isQ a.question) 0 sheet) l
/-- The place of the question of the last one. -/
def lastQ (sheet : List Qst) (l : List Ans4) : Int := match l.getLast? with | none => -1 | some a => findG (isQ a.question) 0 sheet
/-- The walk over answers up to place k has found nothing. -/
def AnsAt (sheet : List Qst) (l : List Ans4) (k : Nat) : Prop := answersG sheet (-1) l = answersG sheet (lastQ sheet (l.take k)) (l.drop k)
section
variable {sheet : List Qst} {l : List Ans4} {k : Nat} {a : Ans4} {q : Qst}
theorem answersG_none (hn : sheet.find? (isQ a.question) = none) (last : Int) (r : List Ans4) : answersG sheet last (a :: r) = 8 := by rw [answersG, hn]
theorem answersG_some (hn : sheet.find? (isQ a.question) = some q) (last : Int) (r : List Ans4) : answersG sheet last (a :: r) = if findG (isQ a.question) 0 sheet ≤ last then 7 else if answerF q a ≠ 0 then answerF q a else answersG sheet (findG (isQ a.question) 0 sheet) r := by rw [answersG, hn]
theorem lastQ_succ (ha : l[k]? = some a) : lastQ sheet (l.take (k + 1)) = findG (isQ a.question) 0 sheet := by
  obtain ⟨hk, rfl⟩ := List.getElem?_eq_some_iff.1 ha
  rw [lastQ, List.take_succ_eq_append_getElem hk, List.getLast?_append]
  simp
theorem AnsAt.zero (sheet : List Qst) (l : List Ans4) : AnsAt sheet l 0 := by simp [AnsAt, lastQ]
theorem AnsAt.none (h : AnsAt sheet l k) (ha : l[k]? = some a) (hn : sheet.find? (isQ a.question) = none) : answersG sheet (-1) l = 8 := by
  rw [h, drop_at ha, answersG_none hn]
theorem AnsAt.order (h : AnsAt sheet l k) (ha : l[k]? = some a) (hn : sheet.find? (isQ a.question) = some q) (ho : findG (isQ a.question) 0 sheet ≤ lastQ sheet (l.take k)) : answersG sheet (-1) l = 7 := by
  rw [h, drop_at ha, answersG_some hn, if_pos ho]
theorem AnsAt.bad {e : Int} (h : AnsAt sheet l k) (ha : l[k]? = some a) (hn : sheet.find? (isQ a.question) = some q) (ho : ¬ findG (isQ a.question) 0 sheet ≤ lastQ sheet (l.take k)) (hb : answerF q a = e) (he : e ≠ 0) : answersG sheet (-1) l = e := by
  rw [h, drop_at ha, answersG_some hn, if_neg ho, hb, if_pos he]
theorem AnsAt.next (h : AnsAt sheet l k) (ha : l[k]? = some a) (hn : sheet.find? (isQ a.question) = some q) (ho : ¬ findG (isQ a.question) 0 sheet ≤ lastQ sheet (l.take k)) (hb : answerF q a = 0) : AnsAt sheet l (k + 1) := by
  unfold AnsAt at *
  rw [h, drop_at ha, answersG_some hn, if_neg ho, hb, if_neg (by simp), lastQ_succ ha]
theorem AnsAt.ok (h : AnsAt sheet l k) (hk : l.length ≤ k) : answersG sheet (-1) l = 0 := by
  rw [h, List.drop_of_length_le hk]; rfl
end
end Go.Proofs.YtjbaijgdkkccbaaGreatDoor
