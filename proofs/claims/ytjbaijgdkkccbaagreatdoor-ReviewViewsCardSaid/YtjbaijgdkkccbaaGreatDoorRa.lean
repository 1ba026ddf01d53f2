/- Order of strings; lists by places. No program in sight. -/
import Derived.Test.YtjbaijgdkkccbaaGreatDoorKb
namespace Go.Proofs.YtjbaijgdkkccbaaGreatDoor
open Go.RowKit

def leB (a b : ByteArray) : Bool:=Op.bytesLess a.toList b.toList || a.toList == b.toList
theorem drop_at {α : Type} {xs : List α} {k : Nat} {y : α} (h : xs[k]? = some y) : xs.drop k = y :: xs.drop (k+1):=by
 obtain ⟨hk,rfl⟩:=List.getElem?_eq_some_iff.1 h;exact List.drop_eq_getElem_cons hk
theorem last_take {α : Type} {xs : List α} {k : Nat} {y : α} (h : xs[k]? = some y) : (xs.take (k+1)).getLast? = some y:=by
 obtain ⟨hk,rfl⟩:=List.getElem?_eq_some_iff.1 h;rw [List.take_succ_eq_append_getElem hk]; exact List.getLast?_concat
end Go.Proofs.YtjbaijgdkkccbaaGreatDoor

/- Strings in order. No program in sight. -/
namespace Go.Proofs.YtjbaijgdkkccbaaGreatDoor
open Go.RowKit

theorem bl_irrefl : ∀ a : List UInt8,Op.bytesLess a a = false
 | []=>rfl
 | x :: l=>by simp [Op.bytesLess,bl_irrefl l]
theorem bl_trans : ∀ {a b c : List UInt8},Op.bytesLess a b = true→Op.bytesLess b c = true→Op.bytesLess a c = true
 | _,[],_,h,_=>by simp [Op.bytesLess] at h
 | _,_ :: _,[],_,h=>by simp [Op.bytesLess] at h
 | [],_ :: _,_ :: _,_,_=>rfl
 | x :: a,y :: b,z :: c,h1,h2=>by
  simp only [Op.bytesLess,Bool.or_eq_true,decide_eq_true_eq,Bool.and_eq_true,beq_iff_eq] at *;rcases h1 with h1 | ⟨rfl,h1⟩
  ·rcases h2 with h2 | ⟨rfl,h2⟩
   ·exact Or.inl (by rw [UInt8.lt_iff_toNat_lt] at *; omega)
   ·exact Or.inl h1
  ·rcases h2 with h2 | ⟨rfl,h2⟩
   ·exact Or.inl h2
   ·exact Or.inr ⟨rfl,bl_trans h1 h2⟩
theorem bl_total : ∀ {a b : List UInt8},Op.bytesLess a b = false→a≠b→Op.bytesLess b a = true
 | [],[],_,h=>absurd rfl h
 | [],_ :: _,h,_=>by simp [Op.bytesLess] at h
 | _ :: _,[],_,_=>rfl
 | x :: a,y :: b,h1,h2=>by
  simp only [Op.bytesLess,Bool.or_eq_false_iff,decide_eq_false_iff_not,Bool.and_eq_false_iff,beq_eq_false_iff_ne,Bool.or_eq_true,decide_eq_true_eq,Bool.and_eq_true,beq_iff_eq] at *;by_cases e : x = y
  ·subst e;refine Or.inr ⟨rfl,bl_total (h1.2.resolve_left (by simp)) (fun e=>h2 (by rw [e]))⟩
  ·refine Or.inl ?_;have:=h1.1;(have hne : x.toNat≠y.toNat:=fun e2=>e (UInt8.toNat_inj.1 e2));rw [UInt8.lt_iff_toNat_lt] at *;omega
theorem cmp_neg : ∀ (a b : List UInt8),Lib.compareBytes a b < 0 ↔ Op.bytesLess a b = true
 | [],[]=>by simp [Lib.compareBytes,Op.bytesLess]
 | [],_ :: _=>by simp [Lib.compareBytes,Op.bytesLess]
 | _ :: _,[]=>by simp [Lib.compareBytes,Op.bytesLess]
 | x :: a,y :: b=>by
  simp only [Lib.compareBytes,Op.bytesLess,Bool.or_eq_true,decide_eq_true_eq,Bool.and_eq_true,beq_iff_eq];by_cases h : x < y
  ·simp [h]
  ·by_cases h2 : y < x
   ·(have hne : x≠y:=fun e=>by subst e; exact h h2);simp [h,h2,hne]
   ·have he : x = y:=UInt8.toNat_inj.1 (by rw [UInt8.lt_iff_toNat_lt] at *; omega);subst he;simp [h,cmp_neg a b]
theorem cmp_zero : ∀ (a b : List UInt8),Lib.compareBytes a b = 0 ↔ a = b
 | [],[]=>by simp [Lib.compareBytes]
 | [],_ :: _=>by simp [Lib.compareBytes]
 | _ :: _,[]=>by simp [Lib.compareBytes]
 | x :: a,y :: b=>by
  simp only [Lib.compareBytes];by_cases h : x < y
  ·(have hne : x≠y:=fun e=>by subst e; rw [UInt8.lt_iff_toNat_lt] at h; omega);simp [h,hne]
  ·by_cases h2 : y < x
   ·(have hne : x≠y:=fun e=>by subst e; exact h h2);simp [h,h2,hne]
   ·have he : x = y:=UInt8.toNat_inj.1 (by rw [UInt8.lt_iff_toNat_lt] at *; omega);subst he;simp [h,cmp_zero a b]
theorem tl_data (s : ByteArray) : s.toList = s.data.toList:=Go.ByteArray.toList_eq s
theorem leB_false {a b : ByteArray} (h : leB a b = false) : Op.bytesLess b.toList a.toList = true:=by
 unfold leB at h;rw [Bool.or_eq_false_iff] at h;exact bl_total h.1 (by simpa using h.2)
end Go.Proofs.YtjbaijgdkkccbaaGreatDoor

/- Marks: how they lie in memory; what CheckMarks, MarksFault, scoresOf, scores and Mean compute. No program in sight. -/
namespace Go.Proofs.YtjbaijgdkkccbaaGreatDoor
open Go.RowKit

structure Mark3 where
 paper : ByteArray
 person : ByteArray
 score : Int
def RMark : Rel Mark3:=fun _ _ vs x=>vs = [.string x.paper,.string x.person,.int .i64 x.score]∧x.paper.size≤1000000∧x.person.size≤1000000
theorem RMark.ok : RMark.Ok:=⟨fun _ h=>h,fun _ h=>h,fun h=>h⟩
def cmpP (a1 a2 b1 b2 : ByteArray) : Int:=if Lib.compareBytes a1.data.toList b1.data.toList≠0 then Lib.compareBytes a1.data.toList b1.data.toList else Lib.compareBytes a2.data.toList b2.data.toList
def ordM (p : Option Mark3) (m : Mark3) : Bool:=match p with | none=>false | some q=>decide (0≤cmpP q.paper q.person m.paper m.person)
noncomputable def markF (p : Option Mark3) (m : Mark3) : Int :=
 if isKeyB m.paper = false then 5 else if isKeyB m.person = false then 5 else if ordM p m = true then 7 else if m.score < 0∨10 < m.score then 1 else 0
noncomputable def marksG (p : Option Mark3) : List Mark3→Int
 | []=>0
 | x :: l=>if markF p x≠0 then markF p x else marksG (some x) l
theorem marksG_cons (p : Option Mark3) (x : Mark3) (l : List Mark3) : marksG p (x :: l) = if markF p x≠0 then markF p x else marksG (some x) l:=rfl
def MarkAt (xs : List Mark3) (k : Nat) : Prop:=marksG none xs = marksG (xs.take k).getLast? (xs.drop k)
section
variable {xs : List Mark3} {k : Nat} {x : Mark3} {p : Option Mark3}
theorem MarkAt.zero (xs : List Mark3) : MarkAt xs 0:=by simp [MarkAt]
theorem MarkAt.bad {e : Int} (h : MarkAt xs k) (hx : xs[k]? = some x) (hf : markF (xs.take k).getLast? x = e) (he : e≠0) : marksG none xs = e:=by
 rw [h,drop_at hx,marksG_cons,hf,if_pos he]
theorem MarkAt.next (h : MarkAt xs k) (hx : xs[k]? = some x) (hf : markF (xs.take k).getLast? x = 0) : MarkAt xs (k+1):=by
 unfold MarkAt at *;rw [h,drop_at hx,marksG_cons,hf,if_neg (by simp),last_take hx]
theorem MarkAt.ok (h : MarkAt xs k) (hk : xs.length≤k) : marksG none xs = 0:=by
 rw [h,List.drop_of_length_le hk]; rfl
end
end Go.Proofs.YtjbaijgdkkccbaaGreatDoor
