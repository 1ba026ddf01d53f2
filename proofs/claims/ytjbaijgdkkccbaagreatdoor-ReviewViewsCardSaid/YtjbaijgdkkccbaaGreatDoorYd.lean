/- Flat elements, sorted and made compact: what is left, in order, each once. No program in sight. -/
import Derived.Test.YtjbaijgdkkccbaaGreatDoorZn
import Derived.Test.YtjbaijgdkkccbaaGreatDoorSd
import Derived.Shelf.SlSortCmp.InsertionK
namespace Go.Proofs.YtjbaijgdkkccbaaGreatDoor
open Go.RowKit Go.Sort

section
variable {α : Type}
def compG (eq : α→α→Bool) : α→List α→List α
 | _,[]=>[]
 | p,y :: l=>if eq y p = true then compG eq y l else y :: compG eq y l
def compL (eq : α→α→Bool) : List α→List α
 | []=>[]
 | x :: l=>x :: compG eq x l
theorem compG_snoc (eq : α→α→Bool) (y : α) : ∀ (l : List α) (p : α),compG eq p (l ++ [y]) = compG eq p l ++ (if eq y (l.getLastD p) = true then [] else [y])
 | [],p=>by simp [compG]
 | z :: l,p=>by
  have h:=compG_snoc eq y l z;(have e : (z :: l).getLastD p = l.getLastD z:=by cases l <;> rfl);rw [List.cons_append,compG,compG,h,e];by_cases hz : eq z p = true
  ·rw [if_pos hz,if_pos hz]
  ·rw [if_neg hz,if_neg hz,List.cons_append]
theorem compL_next (eq : α→α→Bool) {xs : List α} {m : Nat} {x y : α} (hx : xs[m]? = some x) (hy : xs[m+1]? = some y) : compL eq (xs.take (m+2)) = if eq y x = true then compL eq (xs.take (m+1)) else compL eq (xs.take (m+1)) ++ [y]:=by
 (have e2 : xs.take (m+2) = xs.take (m+1) ++ [y]:=by rw [List.take_add_one,hy]; rfl);(have e1 : xs.take (m+1) = xs.take m ++ [x]:=by rw [List.take_add_one,hx]; rfl);rw [e2]
 cases hl : xs.take (m+1) with
 | nil=>rw [e1] at hl; simp at hl
 | cons z l =>
  have hlast : l.getLastD z = x:=by
   (have h1 : (z :: l).getLast? = some x:=by rw [← hl,e1]; simp);(have h2 : (z :: l).getLast? = some (l.getLastD z):=by simp [List.getLast?_cons]);rw [h2] at h1;exact Option.some.inj h1
  rw [List.cons_append,compL,compL,compG_snoc,hlast];by_cases h : eq y x = true
  ·rw [if_pos h,if_pos h,List.append_nil]
  ·rw [if_neg h,if_neg h,List.cons_append]
structure Squash (eq : α→α→Bool) (xs qs : List α) (i j : Nat) : Prop where
 len : qs.length = xs.length
 pre : qs.take i = compL eq (xs.take (j+1))
 il : (compL eq (xs.take (j+1))).length = i
 rest : ∀ t,j≤t→qs[t]? = xs[t]?
 lt : i≤j
theorem Squash.start {eq : α→α→Bool} {xs : List α} {k : Nat} {x y : α} (hx : xs[k]? = some x) (hy : xs[k+1]? = some y) (he : eq y x = true) (hn : compL eq (xs.take (k+1)) = xs.take (k+1)) : Squash eq xs xs (k+1) (k+1):=by
 have hk:=(List.getElem?_eq_some_iff.1 hy).1;have e:=compL_next eq hx hy;rw [if_pos he,hn] at e;exact ⟨rfl,e.symm,by rw [e]; simp; omega,fun _ _=>rfl,Nat.le_refl _⟩
theorem Squash.drop {eq : α→α→Bool} {xs qs : List α} {i j : Nat} {x y : α} (h : Squash eq xs qs i j) (hx : xs[j]? = some x) (hy : xs[j+1]? = some y) (he : eq y x = true) : Squash eq xs qs i (j+1):=by
 have e:=compL_next eq hx hy;rw [if_pos he] at e;exact ⟨h.len,by rw [e]; exact h.pre,by rw [e]; exact h.il,fun t ht=>h.rest t (by omega),by have:=h.lt; omega⟩
theorem Squash.keep {eq : α→α→Bool} {xs qs : List α} {i j : Nat} {x y : α} (h : Squash eq xs qs i j) (hx : xs[j]? = some x) (hy : xs[j+1]? = some y) (he : eq y x = false) : Squash eq xs (qs.set i y) (i+1) (j+1):=by
 have hj:=(List.getElem?_eq_some_iff.1 hy).1;have hlt:=h.lt;have hl:=h.len;have e:=compL_next eq hx hy;rw [if_neg (by simp [he])] at e;refine ⟨by simp [hl],?_,by rw [e]; simp [h.il],fun t ht=>?_,by omega⟩
 ·rw [e,← h.pre,List.take_add_one,List.getElem?_set_self (by omega),List.take_set_of_le (Nat.le_refl _)];rfl
 ·rw [List.getElem?_set_ne (by omega)];exact h.rest t (by omega)
theorem Squash.done {eq : α→α→Bool} {xs qs : List α} {i j : Nat} (h : Squash eq xs qs i j) (hj : xs.length≤j+1) : qs.take i = compL eq xs:=by
 rw [h.pre,List.take_of_length_le hj]

structure IsTidy (cf : α→α→Int) (xs out : List α) : Prop where
 rise : out.Pairwise fun x y=>cf x y < 0
 sub : ∀ x ∈ out,x ∈ xs
 all : ∀ x ∈ xs,∃ y ∈ out,cf x y = 0
structure IsCmp (cf : α→α→Int) : Prop where
 zero : ∀ x y,cf x y = 0→cf y x = 0
 refl : ∀ x,cf x x = 0
 neg : ∀ x y,0 < cf x y→cf y x < 0
 lt : ∀ x y z,cf x y < 0→cf y z≤0→cf x z < 0
 lt2 : ∀ x y z,cf x y≤0→cf y z < 0→cf x z < 0
 eq : ∀ x y z,cf x y = 0→cf y z = 0→cf x z = 0
theorem IsCmp.swo {cf : α→α→Int} (h : IsCmp cf) : SWO (ltOf cf) where
 irrefl x:=by simp [ltOf,h.refl x]
 trans x y z h1 h2:=by
  simp only [ltOf,decide_eq_true_eq] at *;exact h.lt x y z h1 (Int.le_of_lt h2)
 ntrans x y z h1 h2:=by
  simp only [ltOf,decide_eq_false_iff_not,Int.not_lt] at *;have gx : cf y x≤0:=by
   rcases Int.lt_trichotomy (cf x y) 0 with e | e | e
   ·omega
   ·rw [h.zero _ _ e]; exact Int.le_refl _
   ·exact Int.le_of_lt (h.neg _ _ e)
  have gy : cf z y≤0:=by
   rcases Int.lt_trichotomy (cf y z) 0 with e | e | e
   ·omega
   ·rw [h.zero _ _ e]; exact Int.le_refl _
   ·exact Int.le_of_lt (h.neg _ _ e)
  rcases Int.lt_or_le (cf x z) 0 with e | e
  ·exfalso;rcases Int.lt_or_le (cf z y) 0 with e2 | e2
   ·have h3:=h.lt _ _ _ e2 gx;have h4:=h.lt _ _ _ e (Int.le_of_lt h3);rw [h.refl] at h4; omega
   ·(have h0 : cf z y = 0:=by omega);have h3:=h.lt _ _ _ e (by omega : cf z y≤0);omega
  ·exact e
end

section
variable {α : Type} [Inhabited α] {R : Rel α} {enc : α→List Value} {S : α→Prop} {sz : Nat} {T : TypeId} {F : Nat→Prop} {B : Nat} {w : World} {v : Value} {xs : List α}
theorem flatK_at (hl : ∀ x,(enc x).length = sz) (hp : 0 < sz) (d : Array α) (i : Nat) (hi : i < d.size) : ((flatK enc sz d).toList.drop (i*sz)).take sz = enc d[i]!:=by
 have hg : ∀ t,t < d.size*sz→(flatK enc sz d).toList[t]? = some ((enc d[t / sz]!)[t % sz]!):=fun t ht=>by
  rw [Array.getElem?_toList,Array.getElem?_eq_getElem (by simpa using ht)];have:=get_flatK enc sz d t ht;rw [getElem!_pos _ t (by simpa using ht)] at this;rw [this]
 apply List.ext_getElem?
 intro j;by_cases hj : j < sz
 ·have hle : (i+1)*sz≤d.size*sz:=Nat.mul_le_mul_right _ hi;rw [Nat.add_mul] at hle;rw [List.getElem?_take_of_lt hj,List.getElem?_drop,hg _ (by omega)];have e1 : (i*sz+j) / sz = i:=by
   rw [Nat.mul_comm,Nat.mul_add_div hp,Nat.div_eq_of_lt hj,Nat.add_zero]
  have e2 : (i*sz+j) % sz = j:=by
   rw [Nat.mul_comm,Nat.mul_add_mod,Nat.mod_eq_of_lt hj]
  rw [e1,e2];(have hj' : j < (enc d[i]!).length:=by rw [hl]; exact hj);rw [List.getElem?_eq_getElem hj',getElem!_pos _ j hj']
 ·rw [List.getElem?_take_eq_none (by omega),List.getElem?_eq_none (by rw [hl]; omega)]
theorem Acc.sortable (hR : Flat R enc S sz) (h : Acc R sz T F B w v xs) :
  (v = .slice none 0 0∧xs = [])∨∃ g cap,v = .slice (some ⟨g,0,none⟩) xs.length cap∧B≤g∧g < w.heap.size∧HoldsK enc sz w g 0 xs.toArray∧(∀ x ∈ xs,S x) ∧
   ∀ (d' : Array α) (n : Nat) (os : Array Obj),d'.size = xs.length→(∀ x ∈ d'.toList,S x)→Acc R sz T F B (sortWorldK enc sz w g 0 n d' os) v d'.toList∧w.grownBy (sortWorldK enc sz w g 0 n d' os) (some g):=by
 obtain ⟨cells,ho,he⟩:=h;have hcl:=ho.1;(have hE : ∀ (i : Nat) (hi : i < xs.length),(cells.drop (i*sz)).take sz = enc xs[i]∧S xs[i]:=fun i hi=>(hR.iff _ _ _ _).1 (he i hi));rcases ho.2 with ⟨rfl,h0⟩ | ⟨g,cap,cur,rfl,hbase,hb,h1,h2,h3,h4⟩
 ·exact .inl ⟨rfl,List.eq_nil_of_length_eq_zero h0⟩
 ·refine .inr ⟨g,cap,rfl,hbase,(Array.getElem?_eq_some_iff.1 hb).1,?_,fun x hx=>?_,fun d' n os hd hS=>⟨⟨(flatK enc sz d').toList.map id,?_,fun i hi=>?_⟩,grownE_sorted id _⟩⟩
  ·have hfl : (flatK enc sz xs.toArray).toList = cells:=by
    apply List.ext_getElem?
    intro t;by_cases ht : t < xs.length*sz
    ·have hi : t / sz < xs.length:=Nat.div_lt_of_lt_mul (by rw [Nat.mul_comm]; exact ht);have e1:=flatK_at hR.len hR.pos xs.toArray (t / sz) (by simpa using hi);(have e3 : xs.toArray[t / sz]! = xs[t / sz]:=by simp [hi]);rw [e3,← (hE _ hi).1] at e1;have e4:=congrArg (fun l=>l[t % sz]?) e1;have hm : t % sz < sz:=Nat.mod_lt _ hR.pos;simp only [List.getElem?_take_of_lt hm,List.getElem?_drop] at e4;(have e5 : t / sz*sz+t % sz = t:=by rw [Nat.mul_comm]; exact Nat.div_add_mod t sz);rw [e5] at e4;exact e4
    ·rw [List.getElem?_eq_none (by simp; omega),List.getElem?_eq_none (by omega)]
   have h5 : Holds id w g 0 ((flatK enc sz xs.toArray).toList).toArray:=holdsE_of_block id hb (by rw [hfl,List.map_id,hcl]; exact h4);simpa [HoldsK] using h5
  ·obtain ⟨i,hi,rfl⟩:=List.getElem_of_mem hx;exact (hE i hi).2
  ·have hs:=ownsRowE_sorted id (w:=w) (base:=B) (g:=g) (cap:=cap) (n:=n) (m:=xs.length) (sz:=sz) (e:=T) (os:=os) (cur:=cur) (ts:=(flatK enc sz d').toList) (by simp [hd]) hbase hb h1 h2 h3;simpa [hd,sortWorldK,putRowK] using hs
  ·(have hi' : i < d'.size:=by simpa using hi);refine (hR.iff _ _ _ _).2 ⟨?_,hS _ (List.getElem_mem _)⟩;rw [List.map_id,flatK_at hR.len hR.pos d' i hi'];simp [hi']
end
theorem perm_list {α : Type} [Inhabited α] {xs : List α} {d' : Array α} (hp : PermIn 0 xs.length xs.toArray d') : d'.size = xs.length∧d'.toList.Perm xs:=by
 obtain ⟨h1,-,h3⟩:=hp;(have h1' : d'.size = xs.length:=by simpa using h1);refine ⟨h1',?_⟩;(have e1 : (d'.extract 0 xs.length).toList = d'.toList:=by rw [← h1']; simp);(have e2 : (xs.toArray.extract 0 xs.length).toList = xs:=by simp);rw [e1,e2] at h3;exact h3
theorem sorted_list {α : Type} [Inhabited α] {cf : α→α→Int} (hc : IsCmp cf) {n : Nat} {d' : Array α} (hs : SortedIn (ltOf cf) 0 n d') (hn : d'.size = n) : d'.toList.Pairwise fun x y=>cf x y≤0:=by
 rw [List.pairwise_iff_getElem];intro i j hi hj hij;(have hi' : i < d'.size:=by simpa using hi);(have hj' : j < d'.size:=by simpa using hj);have h:=hs i j (Nat.zero_le _) hij (by omega);rw [getElem!_pos d' i hi',getElem!_pos d' j hj'] at h;simp only [ltOf,decide_eq_false_iff_not,Int.not_lt] at h;simp only [Array.getElem_toList];rcases Int.lt_or_le 0 (cf d'[j] d'[i]) with e | e
 ·exact Int.le_of_lt (hc.neg _ _ e)
 ·rw [hc.zero _ _ (by omega : cf d'[j] d'[i] = 0)]; exact Int.le_refl _
end Go.Proofs.YtjbaijgdkkccbaaGreatDoor
