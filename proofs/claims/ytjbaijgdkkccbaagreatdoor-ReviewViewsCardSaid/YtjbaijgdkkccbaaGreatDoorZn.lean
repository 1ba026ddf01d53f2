/- Flat elements: an element is a few cells that hold no address; setting an element of a row of the call's own, clearing its end, what a filter keeps. No program in sight. -/
import Derived.Test.YtjbaijgdkkccbaaGreatDoorZc
import Derived.Lib.SliceRun
import Derived.Test.YtjbaijgdkkccbaaGreatDoorZi
namespace Go.Proofs.YtjbaijgdkkccbaaGreatDoor
open Go.RowKit

structure Flat {α : Type} (R : Rel α) (enc : α→List Value) (S : α→Prop) (sz : Nat) : Prop where
 iff : ∀ F w vs x,R F w vs x ↔ (vs = enc x∧S x)
 len : ∀ x,(enc x).length = sz
 pos : 0 < sz
 one : ∀ x,∀ u ∈ enc x,u.oneCell' = true

section
variable {α : Type} {R : Rel α} {enc : α→List Value} {S : α→Prop} {sz : Nat} {T : TypeId} {F : Nat→Prop} {B : Nat} {w w' : World} {v : Value} {xs : List α}

theorem Flat.ok (hR : Flat R enc S sz) : R.Ok :=
 ⟨fun _ h=>(hR.iff _ _ _ _).2 ((hR.iff _ _ _ _).1 h),fun _ h=>(hR.iff _ _ _ _).2 ((hR.iff _ _ _ _).1 h),fun h=>(hR.iff _ _ _ _).2 ((hR.iff _ _ _ _).1 h)⟩
theorem Acc.flatAny (hR : Flat R enc S sz) (G : Nat→Prop) (h : Acc R sz T F B w v xs) : Acc R sz T G B w v xs:=by
 obtain ⟨cells,ho,he⟩:=h;exact ⟨cells,ho,fun i hi=>(hR.iff _ _ _ _).2 ((hR.iff _ _ _ _).1 (he i hi))⟩
theorem Acc.flatKeep (hR : Flat R enc S sz) {G : Nat→Prop} (h : Acc R sz T F B w v xs) (hk : Kept G w w') (hg : ∀ k,v.ownBlock = some k→G k) : Acc R sz T F B w' v xs:=by
 obtain ⟨cells,ho,he⟩:=h;exact ⟨cells,ownsRow_kept ho hk hg,fun i hi=>(hR.iff _ _ _ _).2 ((hR.iff _ _ _ _).1 (he i hi))⟩
theorem Acc.flatRow (h : Acc R sz T F B w v xs) (hl : 0 < xs.length) :
  ∃ g cap cur,v = .slice (some ⟨g,0,none⟩) xs.length cap∧B≤g∧w.heap[g]? = some (.cells cur T (0,0))∧xs.length≤cap∧cap≤maxLen∧cur.size = cap*sz:=by
 obtain ⟨cells,ho,he⟩:=h;rcases ho.2 with ⟨-,h0⟩ | ⟨g,cap,cur,hv,hb,hg,h1,h2,h3,-⟩
 ·omega
 ·exact ⟨g,cap,cur,hv,hb,hg,h1,h2,h3⟩
theorem Acc.flatCells (hR : Flat R enc S sz) {g n cap : Nat} {cur : Array Value} (hg : w.heap[g]? = some (.cells cur T (0,0))) (hb : B≤g) (hn : xs.length = n) (h1 : n≤cap) (h2 : cap≤maxLen) (h3 : cur.size = cap*sz)
  (hc : ∀ (i : Nat) (x : α),xs[i]? = some x→S x∧∀ (j : Nat) (u : Value),(enc x)[j]? = some u→cur[i*sz+j]? = some u) : Acc R sz T F B w (.slice (some ⟨g,0,none⟩) n cap) xs:=by
 have hle : n*sz≤cap*sz:=Nat.mul_le_mul_right _ h1;(have hl : (cur.toList.take (n*sz)).length = n*sz:=by simp; omega);refine ⟨cur.toList.take (n*sz),⟨by rw [hl,hn],.inr ⟨g,cap,cur,by rw [hn],hb,hg,by omega,h2,h3,by rw [hn]⟩⟩,fun i hi=>?_⟩;obtain ⟨hS,he⟩:=hc i _ (List.getElem?_eq_getElem hi);refine (hR.iff _ _ _ _).2 ⟨?_,hS⟩;have hi2 : (i+1)*sz≤n*sz:=Nat.mul_le_mul_right _ (by omega);rw [Nat.add_mul] at hi2;have hle2:=hR.len xs[i];apply List.ext_getElem?
 intro j;by_cases hj : j < sz
 ·rw [List.getElem?_take_of_lt hj,List.getElem?_drop,List.getElem?_take_of_lt (by omega),Array.getElem?_toList];have h5 : (enc xs[i])[j]? = some (enc xs[i])[j]:=List.getElem?_eq_getElem (by omega);rw [h5];exact he j _ h5
 ·rw [List.getElem?_eq_none (by simp; omega),List.getElem?_eq_none (by omega)]
theorem Acc.flatAt (hR : Flat R enc S sz) {g n cap : Nat} {cur : Array Value} (h : Acc R sz T F B w (.slice (some ⟨g,0,none⟩) n cap) xs) (hg : w.heap[g]? = some (.cells cur T (0,0))) {i : Nat} {x : α} (hx : xs[i]? = some x) :
  S x∧∀ (j : Nat) (u : Value),(enc x)[j]? = some u→cur[i*sz+j]? = some u:=by
 obtain ⟨hi,hxe⟩:=List.getElem?_eq_some_iff.1 hx;obtain ⟨a,c,hv,hs⟩:=h.sl hR.ok hR.pos (G:=fun _=>True) (fun _ _=>trivial) (fun _ _=>trivial)
 cases hv
 obtain ⟨b,off,ha,-,hc⟩:=hs.2 (by omega)
 cases ha
 obtain ⟨vs,h1,h2,h3⟩:=hc i hi;rw [hxe] at h3;obtain ⟨rfl,hS⟩:=(hR.iff _ _ _ _).1 h3;refine ⟨hS,fun j u hj=>?_⟩;obtain ⟨hj1,hj2⟩:=List.getElem?_eq_some_iff.1 hj;have h4:=h2 j hj1;rw [hj2,Nat.zero_add] at h4;simpa [World.cell?,hg] using h4

theorem heap_setCellsF {b : Nat} {t : TypeId} {fz : Nat × Nat} : ∀ (vs : List Value) (w : World) (o : Nat) (cur : Array Value),w.heap[b]? = some (.cells cur t fz)→o+vs.length≤cur.size →
  ∃ cur',(w.setCells b o vs).heap[b]? = some (.cells cur' t fz)∧cur'.size = cur.size∧(∀ i,i < o→cur'[i]? = cur[i]?)∧(∀ i,o+vs.length≤i→cur'[i]? = cur[i]?)∧(∀ j u,vs[j]? = some u→cur'[o+j]? = some u)
 | [],_,_,cur,h,_=>⟨cur,h,rfl,fun _ _=>rfl,fun _ _=>rfl,fun _ _ h=>by simp at h⟩
 | v :: r,w,o,cur,h,hsz=>by
  simp only [List.length_cons] at hsz;have h1 : (w.setCell ⟨b,o,none⟩ v).heap[b]? = some (.cells (cur.setIfInBounds o v) t fz):=by
   simp [World.setCell,Array.getElem?_modify,h]
  obtain ⟨cur',h2,h3,h4,h5,h6⟩:=heap_setCellsF r _ (o+1) _ h1 (by simp; omega);refine ⟨cur',h2,by simpa using h3,fun i hi=>?_,fun i hi=>?_,fun j u hj=>?_⟩
  ·rw [h4 i (by omega),Array.getElem?_setIfInBounds_ne (by omega)]
  ·simp only [List.length_cons] at hi;rw [h5 i (by omega),Array.getElem?_setIfInBounds_ne (by omega)]
  ·cases j with
   | zero =>
    rw [Nat.add_zero,h4 o (by omega),Array.getElem?_setIfInBounds_self_of_lt (by omega)];simpa using hj
   | succ j =>
    have:=h6 j u (by simpa using hj);rw [show o+(j+1) = o+1+j by omega];exact this
theorem kept_setCellsF {F : Nat→Prop} (b : Nat) (hF : ¬ F b) : ∀ (vs : List Value) (w : World) (o : Nat),Kept F w (w.setCells b o vs)
 | [],_,_=>Kept.refl _ _
 | v :: r,w,o=>(Kept.setCell w ⟨b,o,none⟩ v hF).trans (kept_setCellsF b hF r _ (o+1))

theorem Acc.setFlat (hR : Flat R enc S sz) {g n cap : Nat} (h : Acc R sz T F B w (.slice (some ⟨g,0,none⟩) n cap) xs) (i : Nat) (hi : i < n) (y : α) (hy : S y) :
  Acc R sz T F B (w.setCells g (i*sz) (enc y)) (.slice (some ⟨g,0,none⟩) n cap) (xs.set i y):=by
 obtain ⟨a,c,hv,-⟩:=h.form
 cases hv
 obtain ⟨g',cap',cur,hv',hb,hg,h1,h2,h3⟩:=h.flatRow (by omega)
 cases hv'
 have hle : (i+1)*sz≤cap*sz:=Nat.mul_le_mul_right _ (by omega);rw [Nat.add_mul] at hle;have hyl:=hR.len y;obtain ⟨cur',e1,e2,e3,e4,e5⟩:=heap_setCellsF (enc y) w (i*sz) cur hg (by omega);refine Acc.flatCells hR e1 hb (by simp) h1 h2 (by omega) (fun j x hx=>?_);by_cases hj : j = i
 ·subst hj;rw [List.getElem?_set_self hi] at hx;injection hx with hx;subst hx;exact ⟨hy,e5⟩
 ·rw [List.getElem?_set_ne (fun e=>hj e.symm)] at hx;obtain ⟨hS,hx2⟩:=h.flatAt hR hg hx;refine ⟨hS,fun t u ht=>?_⟩;(have htl : t < sz:=by have:=(List.getElem?_eq_some_iff.1 ht).1; have:=hR.len x; omega);have h7:=hx2 t u ht;rcases Nat.lt_or_gt_of_ne hj with h8 | h8
  ·have h9 : (j+1)*sz≤i*sz:=Nat.mul_le_mul_right _ h8;rw [Nat.add_mul] at h9;rw [e3 _ (by omega)]; exact h7
  ·have h9 : (i+1)*sz≤j*sz:=Nat.mul_le_mul_right _ h8;rw [Nat.add_mul] at h9;rw [e4 _ (by omega)]; exact h7
theorem Acc.cutFlat (hR : Flat R enc S sz) {g n cap : Nat} (h : Acc R sz T F B w (.slice (some ⟨g,0,none⟩) n cap) xs) (i : Nat) (hi : i < n) (vs : List Value) (hvs : vs.length = (n - i)*sz) :
  Acc R sz T F B (w.setCells g (i*sz) vs) (.slice (some ⟨g,0,none⟩) i cap) (xs.take i):=by
 obtain ⟨a,c,hv,-⟩:=h.form
 cases hv
 obtain ⟨g',cap',cur,hv',hb,hg,h1,h2,h3⟩:=h.flatRow (by omega)
 cases hv'
 (have hle : i*sz+(xs.length - i)*sz≤cap*sz:=by rw [← Nat.add_mul]; exact Nat.mul_le_mul_right _ (by omega));obtain ⟨cur',e1,e2,e3,e4,e5⟩:=heap_setCellsF vs w (i*sz) cur hg (by omega);refine Acc.flatCells hR e1 hb (by simp; omega) (by omega) h2 (by omega) (fun j x hx=>?_);have hji : j < i:=by
  obtain ⟨hh,-⟩:=List.getElem?_eq_some_iff.1 hx;simp at hh; omega
 rw [List.getElem?_take_of_lt hji] at hx;obtain ⟨hS,hx2⟩:=h.flatAt hR hg hx;refine ⟨hS,fun t u ht=>?_⟩;(have htl : t < sz:=by have:=(List.getElem?_eq_some_iff.1 ht).1; have:=hR.len x; omega);have h9 : (j+1)*sz≤i*sz:=Nat.mul_le_mul_right _ hji;rw [Nat.add_mul] at h9;rw [e3 _ (by omega)]; exact hx2 t u ht
theorem run_clear_flat {P : Program} (w : World) (t e ty : TypeId) (z : Value) (ht : P.underlying t = some (.slice e)) (hv : ∀ w,(zeroValue e).run P w = .ok z w) (b o n c : Nat) (hn : 0 < n)
  (h1 : ∀ u ∈ (Builtin.zeroCells z.cells n).toList,u.oneCell' = true)
  (hc : ∀ j,j < (Builtin.zeroCells z.cells n).size→(w.cell? ⟨b,o+j,none⟩).isSome = true) (hf : ∀ j,j < (Builtin.zeroCells z.cells n).size→w.frozen? ⟨b,o+j,none⟩ = false) :
  (Builtin.clear_ #[t] ty #[.slice (some ⟨b,o,none⟩) n c]).run P w = .ok (.tuple #[]) (w.setCells b o (Builtin.zeroCells z.cells n).toList):=by
 have hst:=run_storeCells_cells (P:=P) b o (Builtin.zeroCells z.cells n).toList 0 w (by simpa using hc) (by simpa using hf) (by intro v hv'; exact h1 v hv');simp only [Nat.add_zero] at hst;obtain ⟨m,rfl⟩ : ∃ m,n = m+1:=⟨n - 1,by omega⟩;simp [Builtin.clear_,run_underlying ht,hv,hst]
end

def AnswersG {α : Type} (P : Program) (g : FuncId) (caps : Array Value) (G : Nat→Prop) (w : World) (val : α→Value) (p : α→Bool) (ys : List α) : Prop :=
 ∀ y ∈ ys,∀ wx,Kept G w wx→Calls P g (#[val y] ++ caps) wx fun e w'=>e = .returned (.bool (p y))∧All wx w'
def CopyG {α : Type} (R : Rel α) (sz : Nat) (T : TypeId) (xs : List α) (w : World) (e : Ending) (w' : World) : Prop :=
 ∃ p c,e = .returned (.slice p xs.length c)∧Acc R sz T (fun _=>False) w.heap.size w' (.slice p xs.length c) xs∧All w w'
def DelPost {α : Type} (R : Rel α) (sz : Nat) (T : TypeId) (B : Nat) (v : Value) (ys : List α) (w : World) (e : Ending) (w' : World) : Prop :=
 ∃ p c,e = .returned (.slice p ys.length c)∧Acc R sz T (fun _=>False) B w' (.slice p ys.length c) ys∧Kept (fun k=>v.ownBlock≠some k) w w'∧(Value.slice p ys.length c).ownBlock = v.ownBlock

section
variable {α : Type}
def findA (p : α→Bool) : Nat→List α→Int
 | _,[]=>-1
 | k,s :: l=>if p s = true then k else findA p (k+1) l
theorem findA_neg {p : α→Bool} : ∀ {ss : List α} {k : Nat},ss.any p = false→findA p k ss = -1
 | [],_,_=>rfl
 | s :: l,k,h=>by
  simp only [List.any_cons,Bool.or_eq_false_iff] at h;rw [findA,if_neg (by simp [h.1])];exact findA_neg h.2
theorem findA_append {p : α→Bool} : ∀ {a b : List α} {k : Nat},a.any p = false→findA p k (a ++ b) = findA p (k+a.length) b
 | [],b,k,_=>by simp
 | s :: l,b,k,h=>by
  simp only [List.any_cons,Bool.or_eq_false_iff] at h;rw [List.cons_append,findA,if_neg (by simp [h.1]),findA_append h.2];simp only [List.length_cons]
  congr 1
  omega
theorem findA_hit {p : α→Bool} : ∀ {ss : List α} {k : Nat},ss.any p = true→∃ i y,findA p k ss = ((k+i : Nat) : Int)∧ss[i]? = some y∧p y = true∧(ss.take i).any p = false
 | s :: l,k,h=>by
  rw [findA];by_cases e : p s = true
  ·exact ⟨0,s,by rw [if_pos e]; rfl,rfl,e,rfl⟩
  ·simp only [List.any_cons,Bool.or_eq_true] at h;obtain ⟨i,y,h1,h2,h3,h4⟩:=findA_hit (k:=k+1) (h.resolve_left e);refine ⟨i+1,y,by rw [if_neg e,h1]; congr 1; omega,h2,h3,?_⟩;rw [List.take_succ_cons,List.any_cons,h4];simpa using e
theorem findA_at {p : α→Bool} {ss : List α} {k : Nat} {y : α} (hn : (ss.take k).any p = false) (hy : ss[k]? = some y) (hp : p y = true) : findA p 0 ss = (k : Int):=by
 obtain ⟨hk,rfl⟩:=List.getElem?_eq_some_iff.1 hy;(have e : ss = ss.take k ++ ss[k] :: ss.drop (k+1):=by rw [← List.drop_eq_getElem_cons hk,List.take_append_drop]);(have hl : (ss.take k).length = k:=by simp; omega);rw [show findA p 0 ss = findA p 0 (ss.take k ++ ss[k] :: ss.drop (k+1)) from congrArg _ e,findA_append hn,hl,findA,if_pos hp];simp
theorem anyA_next {p : α→Bool} {ss : List α} {k : Nat} {y : α} (hn : (ss.take k).any p = false) (hy : ss[k]? = some y) (hp : p y = false) : (ss.take (k+1)).any p = false:=by
 rw [List.take_add_one,hy,List.any_append,hn];simp [hp]
theorem findA_end {p : α→Bool} {ss : List α} {k : Nat} (hn : (ss.take k).any p = false) (hk : ss.length≤k) : findA p 0 ss = -1:=findA_neg (by rw [List.take_of_length_le hk] at hn; exact hn)
abbrev keptA (p : α→Bool) (xs : List α) : List α:=xs.filter fun x=>!p x
theorem keptA_none {p : α→Bool} {xs : List α} (h : xs.any p = false) : keptA p xs = xs:=by
 rw [keptA,List.filter_eq_self];intro a ha;rw [List.any_eq_false] at h;simpa using h a ha
structure Sift (p : α→Bool) (xs qs : List α) (i j : Nat) : Prop where
 len : qs.length = xs.length
 pre : qs.take i = keptA p (xs.take j)
 il : (keptA p (xs.take j)).length = i
 rest : ∀ t,j≤t→qs[t]? = xs[t]?
 lt : i < j
theorem Sift.start {p : α→Bool} {xs : List α} {i : Nat} {y : α} (hy : xs[i]? = some y) (hp : p y = true) (hn : (xs.take i).any p = false) : Sift p xs xs i (i+1):=by
 have hi:=(List.getElem?_eq_some_iff.1 hy).1;have e : keptA p (xs.take (i+1)) = xs.take i:=by
  rw [List.take_add_one,hy,keptA,List.filter_append];have:=keptA_none hn;rw [keptA] at this;rw [this];simp [hp]
 exact ⟨rfl,e.symm,by rw [e]; simp; omega,fun _ _=>rfl,by omega⟩
theorem Sift.drop {p : α→Bool} {xs qs : List α} {i j : Nat} {y : α} (h : Sift p xs qs i j) (hy : xs[j]? = some y) (hp : p y = true) : Sift p xs qs i (j+1):=by
 have e : keptA p (xs.take (j+1)) = keptA p (xs.take j):=by
  rw [List.take_add_one,hy,keptA,List.filter_append];simp [hp]
 exact ⟨h.len,by rw [e]; exact h.pre,by rw [e]; exact h.il,fun t ht=>h.rest t (by omega),by have:=h.lt; omega⟩
theorem Sift.keep {p : α→Bool} {xs qs : List α} {i j : Nat} {y : α} (h : Sift p xs qs i j) (hy : xs[j]? = some y) (hp : p y = false) : Sift p xs (qs.set i y) (i+1) (j+1):=by
 have hj:=(List.getElem?_eq_some_iff.1 hy).1;have hlt:=h.lt;have hl:=h.len;have e : keptA p (xs.take (j+1)) = keptA p (xs.take j) ++ [y]:=by
  rw [List.take_add_one,hy,keptA,List.filter_append];simp [hp]
 refine ⟨by simp [hl],?_,by rw [e]; simp [h.il],fun t ht=>?_,by omega⟩
 ·rw [e,← h.pre,List.take_add_one,List.getElem?_set_self (by omega),List.take_set_of_le (Nat.le_refl _)];rfl
 ·rw [List.getElem?_set_ne (by omega)];exact h.rest t (by omega)
theorem Sift.done {p : α→Bool} {xs qs : List α} {i j : Nat} (h : Sift p xs qs i j) (hj : xs.length≤j) : qs.take i = keptA p xs:=by
 rw [h.pre,List.take_of_length_le hj]
end

theorem Sl.flatG {α : Type} {R : Rel α} {sz : Nat} {F : Nat→Prop} {w : World} {b off len : Nat} {xs : List α} (h : Sl R sz F w (some ⟨b,off,none⟩) len xs) :
  ∃ news : List Value,news.length = len*sz∧(∀ j u,news[j]? = some u→w.cell? ⟨b,off+j,none⟩ = some u)∧∀ (i : Nat) (hi : i < xs.length),R F w ((news.drop (i*sz)).take sz) xs[i]:=by
 have hl:=h.1;have key : ∀ k,k≤len→∃ news : List Value,news.length = k*sz∧(∀ j u,news[j]? = some u→w.cell? ⟨b,off+j,none⟩ = some u)∧∀ (i : Nat) (hi : i < xs.length),i < k→R F w ((news.drop (i*sz)).take sz) xs[i]:=by
  intro k
  induction k with
  | zero=>exact fun _=>⟨[],by simp,by simp,fun i _ hk=>absurd hk (by omega)⟩
  | succ k ih =>
   intro hk;obtain ⟨news,h1,h2,h3⟩:=ih (by omega);obtain ⟨b',off',ha,_,hc⟩:=h.2 (by omega)
   cases ha
   obtain ⟨vs,hv1,hv2,hv3⟩:=hc k (by omega);refine ⟨news ++ vs,by rw [List.length_append,h1,hv1,Nat.add_mul]; omega,fun j u hj=>?_,fun i hi hik=>?_⟩
   ·by_cases hjl : j < news.length
    ·rw [List.getElem?_append_left hjl] at hj;exact h2 j u hj
    ·rw [List.getElem?_append_right (by omega)] at hj;obtain ⟨hjv,rfl⟩:=List.getElem?_eq_some_iff.1 hj;have:=hv2 (j - news.length) hjv;rw [show off+j = off+k*sz+(j - news.length) by omega];exact this
   ·by_cases he : i = k
    ·subst he;have : ((news ++ vs).drop (i*sz)).take sz = vs:=by
      rw [← h1,List.drop_left,List.take_of_length_le (by omega)]
     rw [this]; exact hv3
    ·(have hlt : i < k:=by omega);have hm : (i+1)*sz≤k*sz:=Nat.mul_le_mul_right _ hlt;rw [Nat.add_mul] at hm;have : ((news ++ vs).drop (i*sz)).take sz = (news.drop (i*sz)).take sz:=by
      rw [List.drop_append_of_le_length (by omega),List.take_append_of_le_length (by simp; omega)]
     rw [this]; exact h3 i hi hlt
 obtain ⟨news,h1,h2,h3⟩:=key len (Nat.le_refl _);exact ⟨news,h1,h2,fun i hi=>h3 i hi (by omega)⟩

theorem ownsRow_emptyG (w : World) (B : Nat) (T : TypeId) (sz : Nat) (hB : B≤w.heap.size) : (w.alloc (.cells #[] T)).ownsRow B T sz (.slice (some ⟨w.heap.size,0,none⟩) 0 0) 0 [] :=
 ⟨by simp,.inr ⟨w.heap.size,0,#[],rfl,hB,heap_at _ _ _ rfl,Nat.le_refl _,by unfold maxLen; omega,by simp,by simp⟩⟩

theorem wp_cloneG {α : Type} {R : Rel α} (ok : R.Ok) {P : Program} (w : World) {ops : Array Oper} {rest : List Oper} {o : Oper} {a : Act} {Q : Exit→Act→World→Prop} (hgd : o.guard = none) (s x : Operand) (t : TypeId)
  (ho : o.op = .call { callee:=.builtin .append,args:=#[s,x],argTypes:=#[t,t] })
  (e : TypeId) (z : Value) (size bytes : Nat) (ht : P.underlying t = some (.slice e)) (hi : (P.info? e).map (fun i=>(i.zero,i.size,i.bytes)) = some (some z,size,bytes))
  (hzs : z.cells.size = size) (hsz : 0 < size) (F : Nat→Prop) (w0 : World) (hw0 : w = w0.alloc (.cells #[] e))
  (hs : a.eval s = .slice (some ⟨w0.heap.size,0,none⟩) 0 0)
  (ad : Addr) (len c : Nat) (xs : List α) (hx : a.eval x = .slice (some ad) len c) (hsl : Sl R size F w (some ad) len xs) (hF : ∀ k,F k→k < w0.heap.size) (h1 : ∀ vs y,R F w vs y→∀ u ∈ vs,u.oneCell' = true)
  (hb1 : len≤1000000) (hb2 : bytes≤100000)
  (h : ∀ p' c' w',Acc R size e F w0.heap.size w' (.slice p' xs.length c') xs→All w0 w'→wpList P ops Q rest (a.put o.dst (.slice p' xs.length c')) w') :
  wpList P ops Q (o :: rest) a w:=by
 subst hw0;obtain ⟨i0,hi,hz0,hz1,hz2⟩:=info_parts hi;have hl:=hsl.1;have hflat : ∃ news : List Value,news.length = len*size∧(∀ j u,news[j]? = some u→(w0.alloc (.cells #[] e)).cell? (ad.add j) = some u)∧∀ (i : Nat) (hi : i < xs.length),R F (w0.alloc (.cells #[] e)) ((news.drop (i*size)).take size) xs[i]:=by
  rcases Nat.eq_zero_or_pos len with h0 | h0
  ·exact ⟨[],by simp [h0],by simp,fun i hi=>absurd hi (by omega)⟩
  ·obtain ⟨b,off,ha,-⟩:=hsl.2 h0
   cases ha
   obtain ⟨news,hn1,hn2,hn3⟩:=hsl.flatG;refine ⟨news,hn1,fun j u hj=>?_,hn3⟩;have hadd : (⟨b,off,none⟩ : Addr).add j = ⟨b,off+j,none⟩:=by
    unfold Addr.add; split
    ·rename_i h0; rw [h0,Nat.add_zero]
    ·rfl
   rw [hadd]; exact hn2 j u hj
 obtain ⟨news,hn1,hn2,hn3⟩:=hflat
 refine wpList_append_own_at _ hgd s x t ho w0.heap.size e i0 z size bytes ht hi hz0 hz1 hz2 hzs hsz _ 0 [] hs (ownsRow_emptyG w0 _ _ _ (Nat.le_refl _)) ad len c news hx hn1 hn2 (fun u hu=>?_) (by unfold maxLen; omega) ?_ (by simp) ?_
 ·obtain ⟨j,hj,rfl⟩:=List.getElem_of_mem hu;(have hq : j / size < xs.length:=by rw [hl]; exact Nat.div_lt_of_lt_mul (by rw [Nat.mul_comm]; omega));refine h1 _ _ (hn3 (j / size) hq) _ ?_;(have hj2 : j = j / size*size+j % size:=by rw [Nat.mul_comm]; exact (Nat.div_add_mod j size).symm);have hm : j % size < size:=Nat.mod_lt _ hsz;rw [List.mem_iff_getElem?];refine ⟨j % size,?_⟩;rw [List.getElem?_take,if_pos hm,List.getElem?_drop,← hj2];exact List.getElem?_eq_getElem hj
 ·calc (0+len)*bytes≤1000000000*100000:=Nat.mul_le_mul (by omega) hb2
   _≤140737488355328:=by decide
 ·intro v' w' ho' hg _ hat
  simp only [Nat.zero_add,List.nil_append] at ho';(have hown0 : ∀ k,(Value.slice (some ⟨w0.heap.size,0,none⟩) 0 0).ownBlock = some k→w0.heap.size = k:=fun k hk=>by simpa [Value.ownBlock] using hk);have hkk : Kept (fun k=>k < w0.heap.size) (w0.alloc (.cells #[] e)) w':=(Kept.refl _ _).grown hg (fun k hk=>Or.inr (by have:=hown0 k hk; omega));have hacc : Acc R size e F w0.heap.size w' v' xs:=by
   refine ⟨news,by rw [hl]; exact ho',fun i hi'=>?_⟩;have h2:=ok.keep (hkk.mono fun k hk=>hF k hk) (hn3 i hi');refine ok.mono (fun k hk=>⟨hk,fun e=>?_⟩) h2;have:=(ho'.lt k e).1;have:=hF k hk;omega
  obtain ⟨p',c',rfl,_⟩:=hacc.form;exact h p' c' w' hacc (((Kept.alloc _ _ _)).trans2 hkk fun i hi _=>hi)

end Go.Proofs.YtjbaijgdkkccbaaGreatDoor

/- What the operations of a region that draws its order leave, where nothing that was there changes. -/
namespace Go.Proofs.YtjbaijgdkkccbaaGreatDoor
open Go.RowKit

def QIs (u : Value) (v : Value) (_ : World) : Prop:=v = u
theorem QIs.stays (u : Value) : Stays All (QIs u):=fun _ _ _ _ h=>h
def QAcc {α : Type} (R : Rel α) (sz : Nat) (T : TypeId) (B : Nat) (xs : List α) (v : Value) (w : World) : Prop:=∃ p c,v = .slice p xs.length c∧Acc R sz T (fun _=>False) B w (.slice p xs.length c) xs
theorem QAcc.stays {α : Type} {R : Rel α} (ok : R.Ok) (sz : Nat) (T : TypeId) (B : Nat) (xs : List α) : Stays All (QAcc R sz T B xs):=fun _ _ _ k ⟨p,c,h1,h2⟩=>⟨p,c,h1,h2.keepAll ok k⟩
def QRow (cs : Array Value) (T : TypeId) (v : Value) (w : World) : Prop:=∃ b,v = .slice (some ⟨b,0,none⟩) 1 1∧w.heap[b]? = some (.cells cs T (0,0))
theorem QRow.stays (cs : Array Value) (T : TypeId) : Stays All (QRow cs T):=fun _ _ _ k ⟨b,h1,h2⟩=>⟨b,h1,k.heap h2 trivial⟩
end Go.Proofs.YtjbaijgdkkccbaaGreatDoor

/- A region that draws its order and holds operations behind one guard ('a && f(b)', 'a || f(b)'). No program in sight. -/
namespace Go.Proofs.YtjbaijgdkkccbaaGreatDoor
open Go.RowKit

def guardedAt (ops : Array Oper) (i : Nat) : Bool:=((ops[i]?).bind (·.guard)).isSome
def guardOk (ops : Array Oper) (z gj gs : Nat) (wb : Bool) : Bool :=
 decide (gj < z) && (dstAt ops gj == some gs) && (List.range z).all fun i=>match ops[i]? with
  | some o=>o.dst.isSome && (match o.guard with | none=>true | some (j,b)=>(j == gj) && (b == wb) && (depsOf ops i).contains gj && (i != gj))
  | none=>false

structure WPL (P : Program) (ops : Array Oper) (Q : Exit→Act→World→Prop) (l : List Oper) (a : Act) (w : World) : Prop where
 out : wpList P ops Q l a w

theorem wp_region_guard {P : Program} {ops : Array Oper} {Q : Exit→Act→World→Prop} {id : Nat} {a0 : Act} {w0 : World} (z gj gs : Nat) (wb : Bool) (hm : P.follows .mixedOrders = true) (hform : formOk ops z a0.tmps.size = true) (hgk : guardOk ops z gj gs wb = true)
  (G : Nat→World→Prop) (D : Nat→Value→World→Prop) (M : World→World→Prop) (hM0 : ∀ w,M w w) (hM : ∀ i v w w',M w w'→D i v w→D i v w') (hG : G 0 w0.drew) (hG1 : ∀ k w,G k w→G (k+1) w) (hDg : ∀ v w,D gj v w→∃ r,v = .bool r)
  (hstep : ∀ i o t,ops[i]? = some o→o.dst = some t→i < z→∀ k a w,k < z→G k w→a.defers = a0.defers→a.tmps.size = a0.tmps.size→(∀ t,t ∉ dsts ops z→a.tmps[t]? = a0.tmps[t]?)→(guardedAt ops i = true→a.tmps.getD gs undef = .bool wb) →
   (∀ j ∈ depsOf ops i,∀ t,dstAt ops j = some t→(guardedAt ops j = true→a.tmps.getD gs undef = .bool wb)→D j (a.tmps.getD t undef) w)→o.wp P a w (fun a' w'=>∃ v,a' = a.put (some t) v∧G (k+1) w'∧M w w'∧D i v w') Q)
  (hlast : ∀ w (f : Tmp→Value),G z w→(∀ i t,i < z→dstAt ops i = some t→(guardedAt ops i = true→f gs = .bool wb)→D i (f t) w)→WPL P ops Q (ops.toList.drop z) (puts a0 ((dsts ops z).map fun t=>(t,f t))) w) :
  (Code.region id ops true).wp P Q a0 w0:=by
 have hf:=FormIs.of hform;simp only [guardOk,Bool.and_eq_true,List.all_eq_true,List.mem_range,decide_eq_true_eq,beq_iff_eq] at hgk;obtain ⟨⟨hgz,hgs⟩,hall⟩:=hgk;have hgd : ∀ i o,ops[i]? = some o→i < z→o.dst.isSome = true∧∀ jb,o.guard = some jb→jb = (gj,wb)∧gj ∈ depsOf ops i∧i≠gj:=by
  intro i o ho hi;have h:=hall i hi;rw [ho] at h;simp only [Bool.and_eq_true] at h;refine ⟨h.1,fun jb hjb=>?_⟩;obtain ⟨j,b⟩:=jb;rw [hjb] at h;simp only [Bool.and_eq_true,beq_iff_eq,bne_iff_ne,List.contains_iff_mem] at h;exact ⟨by rw [h.2.1.1.1,h.2.1.1.2],h.2.1.2,h.2.2⟩
 have hgt : ∀ i,i < z→guardedAt ops i = true→gj ∈ depsOf ops i∧i≠gj:=by
  intro i hi h;have hlt : i < ops.size:=Nat.lt_trans hi hf.size;have ho : ops[i]? = some ops[i]:=Array.getElem?_eq_getElem hlt;unfold guardedAt at h;rw [ho] at h;obtain ⟨jb,hjb⟩:=Option.isSome_iff_exists.1 h;exact ((hgd i _ ho hi).2 jb hjb).2
 have hg0 : guardedAt ops gj = false:=by
  cases h : guardedAt ops gj with
  | false=>rfl
  | true=>exact absurd rfl (hgt gj hgz h).2
 refine wp_region_full z hm hform (fun k _ _ w=>G k w) (fun i a w=>∀ t,dstAt ops i = some t→(guardedAt ops i = true→a.tmps.getD gs undef = .bool wb)→D i (a.tmps.getD t undef) w) (fun _ _ _ w w'=>M w w') (fun i j _ _ a w v w' hi hj hij hnd _ hmm hd t ht hw=>?_) hG (fun i o ho hi k _ a w hk hg _ h1 h2 h3 h4=>?_) (fun w a _ hg _ hd=>hlast w (fun t=>a.tmps.getD t undef) hg (fun i t hi ht hw=>hd i hi t ht hw) |>.out)
 ·(have e : ∀ s,dstAt ops j≠some s→((a.put (dstAt ops j) v).tmps.getD s undef) = a.tmps.getD s undef:=fun s hs=>put_at v hs);(have et : dstAt ops j≠some t:=fun e=>(hf.dst i t hi ht).2 j hj (Ne.symm hij) e);rw [e t et];refine hM _ _ _ _ hmm (hd t ht (fun hgi=>?_));(have hjg : j≠gj:=fun e=>hnd (e ▸ (hgt i hi hgi).1));(have eg : dstAt ops j≠some gs:=fun e=>(hf.dst gj gs hgz hgs).2 j hj hjg e);rw [← e gs eg];exact hw hgi
 ·(have hdi : dstAt ops i = o.dst:=by simp [dstAt,ho]);obtain ⟨hds,hgu⟩:=hgd i o ho hi;obtain ⟨t,ht⟩:=Option.isSome_iff_exists.1 hds;have hta:=(hf.dst i t hi (by rw [hdi,ht])).1;(have hgi : guardedAt ops i = o.guard.isSome:=by simp [guardedAt,ho]);have run : (guardedAt ops i = true→a.tmps.getD gs undef = .bool wb)→o.wp P a w (fun a' w'=>∃ v,a' = a.put o.dst v∧G (k+1) w'∧M w w'∧∀ s,dstAt ops i = some s→(guardedAt ops i = true→(a.put o.dst v).tmps.getD gs undef = .bool wb)→D i ((a.put o.dst v).tmps.getD s undef) w') Q:=by
   intro hw;refine Oper.wp_mono ?_ (hstep i o t ho ht hi k a w hk hg h1 h2 h3 hw (fun j hj s hs hjw=>h4 j hj s hs hjw));rintro a' w' ⟨v,rfl,hg',hm',hd'⟩;refine ⟨v,by rw [ht],hg',hm',fun s hs _=>?_⟩;rw [hdi,ht] at hs;obtain rfl:=Option.some.inj hs;(have e : ((a.put o.dst v).tmps.getD t undef) = v:=by rw [ht]; simp [Act.put,Array.getD_eq_getD_getElem?,h2,hta]);rw [e]; exact hd'
  cases hog : o.guard with
  | none =>
   rw [if_pos (by simp [Region.wanted,hog])];exact run (fun h=>by rw [hgi,hog] at h; cases h)
  | some jb =>
   obtain ⟨rfl,hdep,hne⟩:=hgu jb hog;obtain ⟨r,hr⟩:=hDg _ _ (h4 gj hdep gs hgs (fun h=>by rw [hg0] at h; cases h));have hy : yielded ops a.tmps gj = some r:=by
    have hsz:=(hf.dst gj gs hgz hgs).1;rw [← h2] at hsz;have e1 : a.tmps[gs]? = some (.bool r):=by
     rw [Array.getD_eq_getD_getElem?,Array.getElem?_eq_getElem hsz] at hr;rw [Array.getElem?_eq_getElem hsz];exact congrArg some hr
    have e2 : ((ops[gj]?).bind (·.dst)) = some gs:=hgs;unfold yielded;rw [e2];simp [e1]
   by_cases hrw : r = wb
   ·subst hrw;rw [if_pos (by simp [Region.wanted,hog,hy])];exact run (fun _=>hr)
   ·rw [if_neg (by simp [Region.wanted,hog,hy,hrw])];refine ⟨hG1 _ _ hg,hM0 _,fun s hs hw=>?_⟩;exfalso;(have hgi' : guardedAt ops i = true:=by rw [hgi,hog]; rfl);(have hts : t≠gs:=fun e=>(hf.dst gj gs hgz hgs).2 i hi hne (by rw [hdi,ht,e]));have h5:=hw hgi';rw [ht,put_other _ hts,hr] at h5;injection h5 with h5;exact hrw h5

theorem wpAny_genL {P : Program} {ops : Array Oper} {Q : Exit→Act→World→Prop} {a0 : Act} {z : Nat} (hf : FormIs ops z a0.tmps.size)
  (G : Nat→(Nat→Bool)→Act→World→Prop) (D : Nat→Act→World→Prop) (M : Nat→Act→Value→World→World→Prop) (hM : ∀ i j k L a w v w',i < z→j < z→i≠j→j ∉ depsOf ops i→G k L a w→M j a v w w'→D i a w→D i (a.put (dstAt ops j) v) w')
  (hstep : ∀ i o,ops[i]? = some o→i < z→∀ k L a w,k < z→G k L a w→L i = false→a.defers = a0.defers→a.tmps.size = a0.tmps.size→(∀ t,t ∉ dsts ops z→a.tmps[t]? = a0.tmps[t]?) →
   (∀ j ∈ depsOf ops i,L j = true)→(∀ j ∈ depsOf ops i,D j a w)→if Region.wanted o (yielded ops a.tmps) = true then o.wp P a w (fun a' w'=>∃ v,a' = a.put o.dst v∧G (k+1) (fun j=>if j = i then true else L j) (a.put o.dst v) w'∧M i a v w w'∧D i (a.put o.dst v) w') Q else G (k+1) (fun j=>if j = i then true else L j) (a.put o.dst undef) w∧M i a undef w w∧D i (a.put o.dst undef) w)
  (hlast : ∀ w a L,G z L a w→a.tmps.size = a0.tmps.size→(∀ i,i < z→D i a w)→wpList P ops Q (ops.toList.drop z) (puts a0 ((dsts ops z).map fun t=>(t,a.tmps.getD t undef))) w) :
  ∀ fuel listed k a w,listed.toList.count false≤fuel→RInv ops z G D a0 listed k a w→wpAny P .any ops Q fuel listed a w:=by
 intro fuel
 induction fuel with
 | zero =>
  intro listed k a w hfu hi;have h1:=hf.size;have:=count_zero (i:=z) (by rw [hi.lsz]; omega) (by omega);rw [hi.notz z (Nat.le_refl _)] at this
  cases this
 | succ fuel ih =>
  intro listed k a w hfu hi;have hzs:=hf.size;by_cases hallz : ∀ i,i < z→listed.getD i false = true
  ·-- the free ones have all come up
   have hli : ∀ i,i < ops.size→listed.getD i false = decide (i < z):=fun i _=>by
    by_cases h : i < z
    ·rw [hallz i h]; simp [h]
    ·rw [hi.notz i (by omega)]; simp [h]
   have hcount : listed.toList.count false = ops.size - z:=by
    have : listed.toList = List.replicate z true ++ List.replicate (ops.size - z) false:=by
     apply List.ext_getElem
     ·simp [hi.lsz]; omega
     ·intro n h1 h2;(have hn : n < ops.size:=by simpa [hi.lsz] using h1);have h3:=hli n hn;rw [Array.getD_eq_getD_getElem?,Array.getElem?_eq_getElem (by rw [hi.lsz]; exact hn),Option.getD_some,← Array.getElem_toList] at h3;rw [h3,List.getElem_append];simp
    rw [this,List.count_append,List.count_replicate,List.count_replicate];simp
   (have hk : k = z:=by have:=hi.cnt; omega);subst hk;(have hav : ∀ n,n < k→D n a w:=fun n hn=>hi.val n hn (hallz n hn));have ha : a = puts a0 ((dsts ops k).map fun t=>(t,a.tmps.getD t undef)):=by
    have h1 : a.tmps = (puts a0 ((dsts ops k).map fun t=>(t,a.tmps.getD t undef))).tmps:=by
     apply Array.ext_getElem?
     intro t;by_cases ht : t < a0.tmps.size
     ·rw [puts_get (fun t=>a.tmps.getD t undef) _ _ _ ht];by_cases hm : t ∈ dsts ops k
      ·rw [if_pos hm,Array.getElem?_eq_getElem (by rw [hi.tsz]; exact ht)];simp [Array.getD_eq_getD_getElem?,hi.tsz,ht]
      ·rw [if_neg hm]; exact hi.oth t hm
     ·rw [Array.getElem?_eq_none (by rw [hi.tsz]; omega),Array.getElem?_eq_none (by rw [puts_size]; omega)]
    have h2 : a.defers = (puts a0 ((dsts ops k).map fun t=>(t,a.tmps.getD t undef))).defers:=by rw [puts_defers]; exact hi.dfs
    cases a
    generalize puts a0 _ = b at h1 h2
    cases b
    simp only at h1 h2;rw [h1,h2]
   have h3:=hlast w a _ hi.g hi.tsz hav;rw [← ha] at h3;exact wpAny_tail hf (ops.size - k) k _ listed a w (by omega) (Nat.le_refl _) hi.lsz hli (by omega) h3
  -- some free one has not come up; the least such can come up
  have hlow : ∃ n,n < z∧(∀ i,i < n→listed.getD i false = true)∧listed.getD n false = false:=by
   have h2 : ∀ m n,n+m = z→(∀ i,i < n→listed.getD i false = true)→∃ n,n < z∧(∀ i,i < n→listed.getD i false = true)∧listed.getD n false = false:=by
    intro m
    induction m with
    | zero=>intro n hn hall; exact absurd (fun i hlt=>hall i (by omega)) hallz
    | succ m ihm =>
     intro n hn hall;by_cases hnn : listed.getD n false = true
     ·exact ihm (n+1) (by omega) (fun i hlt=>by
       by_cases e : i = n
       ·rw [e]; exact hnn
       ·exact hall i (by omega))
     ·exact ⟨n,by omega,hall,by simpa using hnn⟩
   exact h2 z 0 (by omega) (fun i h=>by omega)
  obtain ⟨n0,hn0,hbelow,hn0u⟩:=hlow;have hready : n0 ∈ Region.ready .any ops listed:=by
   refine mem_ready.2 ⟨by rw [getD_flip (by rw [hi.lsz]; omega)]; exact hn0u,ops[n0]'(by omega),Array.getElem?_eq_getElem _,fun e he hb=>?_⟩;have hd : e.on ∈ depsOf ops n0:=(depsOf_some (Array.getElem?_eq_getElem (by omega))).2 ⟨e,he,hb,rfl⟩;exact hbelow _ (hf.low n0 _ (by omega) hd)
  refine ⟨fun h=>(by rw [h] at hready; cases hready),fun i hr=>?_⟩;obtain ⟨hun,o,ho,hdep⟩:=mem_ready.1 hr;have hlt : i < ops.size:=(Array.getElem?_eq_some_iff.1 ho).1;(have hil : i < listed.size:=by rw [hi.lsz]; exact hlt);have hdeps : ∀ j ∈ depsOf ops i,listed.getD j false = true:=fun j hj=>by
   obtain ⟨e,he,hb,rfl⟩:=(depsOf_some ho).1 hj;exact hdep e he hb
  have hcs:=count_set hun;have hizl : i < z:=by
   rcases Nat.lt_or_ge i z with h | h
   ·exact h
   ·exfalso
    -- what comes up from z on waits for all below z
    have hzall : ∀ m n,n+m = z→(∀ j ∈ depsOf ops z,listed.getD j false = true)→0 < m→listed.getD n false = true:=by
     intro m
     induction m using Nat.strongRecOn with
     | _ m ihm =>
      intro n hn hz hm;obtain ⟨j,hj,hd⟩:=hf.next n (by omega);have hnj:=hf.low j n (by omega) hd;by_cases hji : j = z
      ·rw [hji] at hd; exact hz n hd
      ·exact hi.clo j (by omega) (ihm (z - j) (by omega) j (by omega) hz (by omega)) n hd
    by_cases e : i = z
    ·subst e;have:=hzall (i - n0) n0 (by omega) hdeps (by omega);rw [hn0u] at this
     cases this
    ·have:=hdeps (i - 1) (hf.tail i (by omega) hlt);rw [hi.notz (i - 1) (by omega)] at this
     cases this
  (have hod : dstAt ops i = o.dst:=by simp [dstAt,ho]);unfold wpOp;simp only [ho];have hkz : k < z:=by
   have h1 : ops.size - z+1≤listed.toList.count false:=by
    have hsp : listed.toList.count false = (listed.toList.take z).count false+(listed.toList.drop z).count false:=by
     rw [← List.count_append,List.take_append_drop]
    have hd : (listed.toList.drop z).count false = ops.size - z:=by
     have : listed.toList.drop z = List.replicate (ops.size - z) false:=by
      apply List.ext_getElem
      ·simp [hi.lsz]
      ·intro n h1 h2;(have hn : z+n < ops.size:=by simp [hi.lsz] at h1; omega);have h3:=hi.notz (z+n) (by omega);rw [Array.getD_eq_getD_getElem?,Array.getElem?_eq_getElem (by rw [hi.lsz]; exact hn),Option.getD_some,← Array.getElem_toList] at h3;rw [List.getElem_drop,h3];simp
     rw [this,List.count_replicate];simp
    have ht : 0 < (listed.toList.take z).count false:=by
     apply List.count_pos_iff.2
     rw [Array.getD_eq_getD_getElem?,Array.getElem?_eq_getElem (by rw [hi.lsz]; omega),Option.getD_some,← Array.getElem_toList] at hn0u;(have h5 : (listed.toList.take z)[n0]'(by simp [hi.lsz]; omega) = false:=by rw [List.getElem_take]; exact hn0u);exact h5 ▸ List.getElem_mem _
    omega
   have:=hi.cnt;omega
  have hst:=hstep i o ho hizl k _ a w hkz hi.g (by rw [← getD_flip hil]; exact hun) hi.dfs hi.tsz hi.oth hdeps (fun j hj=>hi.val j (by have:=hf.low i j hlt hj; omega) (hdeps j hj))
  suffices hnext : ∀ a' w',(∃ v,a' = a.put o.dst v∧G (k+1) (fun j=>if j = i then true else listed.getD j false) (a.put o.dst v) w'∧M i a v w w'∧D i (a.put o.dst v) w')→wpAny P .any ops Q fuel (listed.setIfInBounds i true) a' w' by
   split
   ·rename_i hw
    rw [if_pos hw] at hst;exact Or.inl (Oper.wp_mono hnext hst)
   ·rename_i hw
    rw [if_neg hw] at hst;exact hnext _ _ ⟨undef,rfl,hst⟩
  rintro a' w' ⟨v,rfl,hg',hm',hd'⟩;have hgL : G (k+1) (fun j=>(listed.setIfInBounds i true).getD j false) (a.put o.dst v) w':=by
   rw [show (fun j=>(listed.setIfInBounds i true).getD j false) = fun j=>if j = i then true else listed.getD j false from funext fun j=>getD_set hil];exact hg'
  refine ih _ (k+1) _ _ (by omega) ⟨by simp [hi.lsz],by have:=hi.cnt; omega,fun j hj hjl n hn=>?_,fun j hj=>?_,by rw [← hi.dfs]; cases o.dst <;> rfl,by rw [← hi.tsz]; cases o.dst <;> simp [Act.put],fun s hs=>?_,fun j hj hjl=>?_,hgL⟩
  ·rw [getD_set hil] at hjl ⊢;by_cases e : n = i
   ·simp [e]
   ·rw [if_neg e];by_cases e2 : j = i
    ·rw [e2] at hn; exact hdeps n hn
    ·rw [if_neg e2] at hjl; exact hi.clo j hj hjl n hn
  ·rw [getD_set hil,if_neg (by omega)]; exact hi.notz j hj
  ·cases hdo : o.dst with
   | none=>exact hi.oth s hs
   | some t =>
    (have hst : s≠t:=fun e=>hs (List.mem_filterMap.2 ⟨i,List.mem_range.2 hizl,by rw [hod,hdo,e]⟩));simp only [Act.put,Array.getElem?_setIfInBounds,if_neg (Ne.symm hst)];exact hi.oth s hs
  ·by_cases e : j = i
   ·subst e; exact hd'
   ·rw [getD_set hil,if_neg e] at hjl;have:=hM j i k _ a w v w' hj hizl e (fun hm=>by have h1:=hi.clo j hj hjl i hm; rw [getD_flip hil,h1] at hun; cases hun) hi.g hm' (hi.val j hj hjl);rw [hod] at this;exact this

theorem wp_region_fullL {P : Program} {ops : Array Oper} {Q : Exit→Act→World→Prop} {id : Nat} {a0 : Act} {w0 : World} (z : Nat) (hm : P.follows .mixedOrders = true) (hform : formOk ops z a0.tmps.size = true)
  (G : Nat→(Nat→Bool)→Act→World→Prop) (D : Nat→Act→World→Prop) (M : Nat→Act→Value→World→World→Prop) (hM : ∀ i j k L a w v w',i < z→j < z→i≠j→j ∉ depsOf ops i→G k L a w→M j a v w w'→D i a w→D i (a.put (dstAt ops j) v) w') (hG : G 0 (fun _=>false) a0 w0.drew)
  (hstep : ∀ i o,ops[i]? = some o→i < z→∀ k L a w,k < z→G k L a w→L i = false→a.defers = a0.defers→a.tmps.size = a0.tmps.size→(∀ t,t ∉ dsts ops z→a.tmps[t]? = a0.tmps[t]?) →
   (∀ j ∈ depsOf ops i,L j = true)→(∀ j ∈ depsOf ops i,D j a w)→if Region.wanted o (yielded ops a.tmps) = true then o.wp P a w (fun a' w'=>∃ v,a' = a.put o.dst v∧G (k+1) (fun j=>if j = i then true else L j) (a.put o.dst v) w'∧M i a v w w'∧D i (a.put o.dst v) w') Q else G (k+1) (fun j=>if j = i then true else L j) (a.put o.dst undef) w∧M i a undef w w∧D i (a.put o.dst undef) w)
  (hlast : ∀ w a L,G z L a w→a.tmps.size = a0.tmps.size→(∀ i,i < z→D i a w)→wpList P ops Q (ops.toList.drop z) (puts a0 ((dsts ops z).map fun t=>(t,a.tmps.getD t undef))) w) :
  (Code.region id ops true).wp P Q a0 w0:=by
 have hf:=FormIs.of hform;have hG' : G 0 (fun j=>(Array.replicate ops.size false).getD j false) a0 w0.drew:=by
  have e : (fun j=>(Array.replicate ops.size false).getD j false) = fun _=>false:=funext fun j=>by
   rw [Array.getD_eq_getD_getElem?];by_cases h : j < ops.size
   ·simp [h]
   ·simp [h]
  rw [e]; exact hG
 refine wp_region_any hm (wpAny_genL hf G D M hM hstep hlast ops.size _ 0 a0 _ (by simp) ⟨by simp,by simp,fun i hi h=>?_,fun i hi=>?_,rfl,rfl,fun _ _=>rfl,fun i hi h=>?_,hG'⟩)
 ·have:=hf.size;simp [Array.getD_eq_getD_getElem?,show i < ops.size by omega] at h
 ·rw [Array.getD_eq_getD_getElem?];by_cases h : i < ops.size
  ·simp [h]
  ·simp [h]
 ·have:=hf.size;simp [Array.getD_eq_getD_getElem?,show i < ops.size by omega] at h

theorem wp_region_guardL {P : Program} {ops : Array Oper} {Q : Exit→Act→World→Prop} {id : Nat} {a0 : Act} {w0 : World} (z gj gs : Nat) (wb : Bool) (hm : P.follows .mixedOrders = true) (hform : formOk ops z a0.tmps.size = true) (hgk : guardOk ops z gj gs wb = true)
  (G : Nat→(Nat→Bool)→Act→World→Prop) (D : Nat→Value→World→Prop) (M : Nat→World→World→Prop) (hM0 : ∀ j w,M j w w) (hM : ∀ i j v w w',i < z→j < z→i≠j→j ∉ depsOf ops i→M j w w'→D i v w→D i v w') (hG : G 0 (fun _=>false) a0 w0.drew) (hG1 : ∀ i t k L a w,i < z→dstAt ops i = some t→guardedAt ops i = true→t < a.tmps.size→G k L a w→L i = false→G (k+1) (fun j=>if j = i then true else L j) (a.put (some t) undef) w) (hDg : ∀ v w,D gj v w→∃ r,v = .bool r)
  (hstep : ∀ i o t,ops[i]? = some o→o.dst = some t→i < z→∀ k L a w,k < z→G k L a w→L i = false→a.defers = a0.defers→t < a.tmps.size→a.tmps.size = a0.tmps.size→(∀ t,t ∉ dsts ops z→a.tmps[t]? = a0.tmps[t]?)→(∀ j ∈ depsOf ops i,L j = true)→(guardedAt ops i = true→a.tmps.getD gs undef = .bool wb) →
   (∀ j ∈ depsOf ops i,∀ t,dstAt ops j = some t→(guardedAt ops j = true→a.tmps.getD gs undef = .bool wb)→D j (a.tmps.getD t undef) w)→o.wp P a w (fun a' w'=>∃ v,a' = a.put (some t) v∧G (k+1) (fun j=>if j = i then true else L j) (a.put (some t) v) w'∧M i w w'∧D i v w') Q)
  (hlast : ∀ w (f : Tmp→Value),(∃ a L,G z L a w)→(∀ i t,i < z→dstAt ops i = some t→(guardedAt ops i = true→f gs = .bool wb)→D i (f t) w)→WPL P ops Q (ops.toList.drop z) (puts a0 ((dsts ops z).map fun t=>(t,f t))) w) :
  (Code.region id ops true).wp P Q a0 w0:=by
 have hf:=FormIs.of hform;simp only [guardOk,Bool.and_eq_true,List.all_eq_true,List.mem_range,decide_eq_true_eq,beq_iff_eq] at hgk;obtain ⟨⟨hgz,hgs⟩,hall⟩:=hgk;have hgd : ∀ i o,ops[i]? = some o→i < z→o.dst.isSome = true∧∀ jb,o.guard = some jb→jb = (gj,wb)∧gj ∈ depsOf ops i∧i≠gj:=by
  intro i o ho hi;have h:=hall i hi;rw [ho] at h;simp only [Bool.and_eq_true] at h;refine ⟨h.1,fun jb hjb=>?_⟩;obtain ⟨j,b⟩:=jb;rw [hjb] at h;simp only [Bool.and_eq_true,beq_iff_eq,bne_iff_ne,List.contains_iff_mem] at h;exact ⟨by rw [h.2.1.1.1,h.2.1.1.2],h.2.1.2,h.2.2⟩
 have hgt : ∀ i,i < z→guardedAt ops i = true→gj ∈ depsOf ops i∧i≠gj:=by
  intro i hi h;have hlt : i < ops.size:=Nat.lt_trans hi hf.size;have ho : ops[i]? = some ops[i]:=Array.getElem?_eq_getElem hlt;unfold guardedAt at h;rw [ho] at h;obtain ⟨jb,hjb⟩:=Option.isSome_iff_exists.1 h;exact ((hgd i _ ho hi).2 jb hjb).2
 have hg0 : guardedAt ops gj = false:=by
  cases h : guardedAt ops gj with
  | false=>rfl
  | true=>exact absurd rfl (hgt gj hgz h).2
 refine wp_region_fullL z hm hform G (fun i a w=>∀ t,dstAt ops i = some t→(guardedAt ops i = true→a.tmps.getD gs undef = .bool wb)→D i (a.tmps.getD t undef) w) (fun i _ _ w w'=>M i w w') (fun i j _ _ a w v w' hi hj hij hnd _ hmm hd t ht hw=>?_) hG (fun i o ho hi k L a w hk hg hLi h1 h2 h3 hLd h4=>?_) (fun w a L hg _ hd=>hlast w (fun t=>a.tmps.getD t undef) ⟨a,L,hg⟩ (fun i t hi ht hw=>hd i hi t ht hw) |>.out)
 ·(have e : ∀ s,dstAt ops j≠some s→((a.put (dstAt ops j) v).tmps.getD s undef) = a.tmps.getD s undef:=fun s hs=>put_at v hs);(have et : dstAt ops j≠some t:=fun e=>(hf.dst i t hi ht).2 j hj (Ne.symm hij) e);rw [e t et];refine hM _ _ _ _ _ hi hj hij hnd hmm (hd t ht (fun hgi=>?_));(have hjg : j≠gj:=fun e=>hnd (e ▸ (hgt i hi hgi).1));(have eg : dstAt ops j≠some gs:=fun e=>(hf.dst gj gs hgz hgs).2 j hj hjg e);rw [← e gs eg];exact hw hgi
 ·(have hdi : dstAt ops i = o.dst:=by simp [dstAt,ho]);obtain ⟨hds,hgu⟩:=hgd i o ho hi;obtain ⟨t,ht⟩:=Option.isSome_iff_exists.1 hds;have hta:=(hf.dst i t hi (by rw [hdi,ht])).1;(have hgi : guardedAt ops i = o.guard.isSome:=by simp [guardedAt,ho]);have run : (guardedAt ops i = true→a.tmps.getD gs undef = .bool wb)→o.wp P a w (fun a' w'=>∃ v,a' = a.put o.dst v∧G (k+1) (fun j=>if j = i then true else L j) (a.put o.dst v) w'∧M i w w'∧∀ s,dstAt ops i = some s→(guardedAt ops i = true→(a.put o.dst v).tmps.getD gs undef = .bool wb)→D i ((a.put o.dst v).tmps.getD s undef) w') Q:=by
   intro hw;refine Oper.wp_mono ?_ (hstep i o t ho ht hi k L a w hk hg hLi h1 (by rw [h2]; exact hta) h2 h3 hLd hw (fun j hj s hs hjw=>h4 j hj s hs hjw));rintro a' w' ⟨v,rfl,hg',hm',hd'⟩;refine ⟨v,by rw [ht],by rw [ht]; exact hg',hm',fun s hs _=>?_⟩;rw [hdi,ht] at hs;obtain rfl:=Option.some.inj hs;(have e : ((a.put o.dst v).tmps.getD t undef) = v:=by rw [ht]; simp [Act.put,Array.getD_eq_getD_getElem?,h2,hta]);rw [e]; exact hd'
  cases hog : o.guard with
  | none =>
   rw [if_pos (by simp [Region.wanted,hog])];exact run (fun h=>by rw [hgi,hog] at h; cases h)
  | some jb =>
   obtain ⟨rfl,hdep,hne⟩:=hgu jb hog;obtain ⟨r,hr⟩:=hDg _ _ (h4 gj hdep gs hgs (fun h=>by rw [hg0] at h; cases h));have hy : yielded ops a.tmps gj = some r:=by
    have hsz:=(hf.dst gj gs hgz hgs).1;rw [← h2] at hsz;have e1 : a.tmps[gs]? = some (.bool r):=by
     rw [Array.getD_eq_getD_getElem?,Array.getElem?_eq_getElem hsz] at hr;rw [Array.getElem?_eq_getElem hsz];exact congrArg some hr
    have e2 : ((ops[gj]?).bind (·.dst)) = some gs:=hgs;unfold yielded;rw [e2];simp [e1]
   by_cases hrw : r = wb
   ·subst hrw;rw [if_pos (by simp [Region.wanted,hog,hy])];exact run (fun _=>hr)
   ·rw [if_neg (by simp [Region.wanted,hog,hy,hrw])];refine ⟨by rw [ht]; exact hG1 i t k L a w hi (by rw [hdi,ht]) (by rw [hgi,hog]; rfl) (by rw [h2]; exact hta) hg hLi,hM0 _ _,fun s hs hw=>?_⟩;exfalso;(have hgi' : guardedAt ops i = true:=by rw [hgi,hog]; rfl);(have hts : t≠gs:=fun e=>(hf.dst gj gs hgz hgs).2 i hi hne (by rw [hdi,ht,e]));have h5:=hw hgi';rw [ht,put_other _ hts,hr] at h5;injection h5 with h5;exact hrw h5

theorem op_append1 {α : Type} {R : Rel α} (ok : R.Ok) {P : Program} (w : World) {o : Oper} {a : Act} {K : Act→World→Prop} {Q : Exit→Act→World→Prop} (s x : Operand) (t : TypeId)
  (ho : o.op = .call { callee:=.builtin .append,args:=#[s,x],argTypes:=#[t,t] })
  (B : Nat) (e : TypeId) (z : Value) (size bytes : Nat) (ht : P.underlying t = some (.slice e)) (hi : (P.info? e).map (fun i=>(i.zero,i.size,i.bytes)) = some (some z,size,bytes))
  (hzs : z.cells.size = size) (hsz : 0 < size) (F : Nat→Prop)
  (v : Value) (xs : List α) (hs : a.eval s = v) (hacc : Acc R size e F B w v xs)
  (ad : Addr) (c : Nat) (vs : List Value) (hx : a.eval x = .slice (some ad) 1 c) (hl : vs.length = size) (hnews : ∀ j u,vs[j]? = some u→w.cell? (ad.add j) = some u) (h1 : ∀ u ∈ vs,u.oneCell' = true)
  (y : α) (hy : R (fun k=>F k∧v.ownBlock≠some k) w vs y)
  (hb1 : xs.length+1≤1000000000) (hb2 : bytes≤100000) (hbase : B≤w.heap.size)
  (h : ∀ p' c' w',Acc R size e F B w' (.slice p' (xs.length+1) c') (xs ++ [y])→w.grownBy w' v.ownBlock→((Value.slice p' (xs.length+1) c').ownBlock = v.ownBlock∨(Value.slice p' (xs.length+1) c').ownBlock = some w.heap.size)→K (a.put o.dst (.slice p' (xs.length+1) c')) w') :
  Oper.wp P o a w K Q:=by
 obtain ⟨i0,hi,hz0,hz1,hz2⟩:=info_parts hi;obtain ⟨cells,hown,he⟩:=hacc;have hbytes : (xs.length+1)*bytes≤140737488355328:=by
  calc (xs.length+1)*bytes≤1000000000*100000:=Nat.mul_le_mul hb1 hb2
   _≤140737488355328:=by decide
 obtain ⟨v',w',hr,h2,h3,h4,h5⟩:=run_append_own_at (P:=P) w B t o.type e i0 z size bytes ht hi hz0 hz1 hz2 hzs hsz v xs.length cells hown ad 1 c vs (by omega) hnews h1 (by unfold maxLen; omega) hbytes hbase;unfold Oper.wp execOp;simp only [ho,resolve,invoke,builtin,Sem.run_bind,Sem.run_pure,Result.andThen_ok,List.map_toArray,List.map_cons,List.map_nil,hs,hx,hr];have hp:=Acc.push ok hl hown he hy h2 h3 h5;obtain ⟨p',c',rfl,_⟩:=hp.form;simp only [List.length_append,List.length_cons,List.length_nil,Nat.zero_add] at *;exact h p' c' w' hp h3 h5
end Go.Proofs.YtjbaijgdkkccbaaGreatDoor

/- A region that draws its order: what holds throughout knows which operations are done; what may change depends on the operation. No program in sight. -/
namespace Go.Proofs.YtjbaijgdkkccbaaGreatDoor
open Go.RowKit

theorem wp_region_invL {P : Program} {ops : Array Oper} {Q : Exit→Act→World→Prop} {id : Nat} {a0 : Act} {w0 : World} (z : Nat) (hm : P.follows .mixedOrders = true) (hform : (formOk ops z a0.tmps.size && plainOk ops z) = true) (hall : (List.range z).all (fun i=>(dstAt ops i).isSome) = true)
  (G : (Nat→Bool)→World→Prop) (D : Nat→Value→World→Prop) (M : Nat→World→World→Prop) (hM : ∀ i j v w w',i < z→j < z→i≠j→M j w w'→D i v w→D i v w') (hG : G (fun _=>false) w0.drew)
  (hstep : ∀ i o t,ops[i]? = some o→o.dst = some t→i < z→∀ L a w,G L w→L i = false→a.defers = a0.defers→a.tmps.size = a0.tmps.size→(∀ t,t ∉ dsts ops z→a.tmps[t]? = a0.tmps[t]?) →
   (∀ j ∈ depsOf ops i,∀ t,dstAt ops j = some t→D j (a.tmps.getD t undef) w)→o.wp P a w (fun a' w'=>∃ v,a' = a.put (some t) v∧G (fun j=>if j = i then true else L j) w'∧M i w w'∧D i v w') Q)
  (hlast : ∀ L w (f : Tmp→Value),G L w→(∀ i t,i < z→dstAt ops i = some t→D i (f t) w)→wpList P ops Q (ops.toList.drop z) (puts a0 ((dsts ops z).map fun t=>(t,f t))) w) :
  (Code.region id ops true).wp P Q a0 w0:=by
 obtain ⟨hfo,hpl⟩:=Bool.and_eq_true_iff.1 hform;have hf:=FormIs.of hfo;refine wp_region_full z hm hfo (fun _ L _ w=>G L w) (fun i a w=>∀ t,dstAt ops i = some t→D i (a.tmps.getD t undef) w) (fun j _ _ w w'=>M j w w') (fun i j _ _ a w v w' hi hj hij _ _ hmm hd t ht=>?_) hG (fun i o ho hi k L a w hk hg hL h1 h2 h3 h4=>?_) (fun w a L hg _ hd=>hlast L w (fun t=>a.tmps.getD t undef) hg (fun i t hi ht=>hd i hi t ht))
 ·have e : ((a.put (dstAt ops j) v).tmps.getD t undef) = a.tmps.getD t undef:=put_at v (fun e=>(hf.dst i t hi ht).2 j hj (Ne.symm hij) e);rw [e];exact hM _ _ _ _ _ hi hj hij hmm (hd t ht)
 ·(have hdi : dstAt ops i = o.dst:=by simp [dstAt,ho]);obtain ⟨t,ht⟩ : ∃ t,o.dst = some t:=by
   have:=List.all_eq_true.1 hall i (List.mem_range.2 hi);rw [hdi] at this;exact Option.isSome_iff_exists.1 this
  rw [if_pos (by simp [Region.wanted,plainOk.guard hpl hi ho])];refine Oper.wp_mono ?_ (hstep i o t ho ht hi L a w hg hL h1 h2 h3 (fun j hj t ht=>h4 j hj t ht));rintro a' w' ⟨v,rfl,hg',hm',hd'⟩;refine ⟨v,by rw [ht],hg',hm',fun s hs=>?_⟩;rw [hdi,ht] at hs;obtain rfl:=Option.some.inj hs;have hta:=(hf.dst i t hi (by rw [hdi,ht])).1;(have e : ((a.put o.dst v).tmps.getD t undef) = v:=by rw [ht]; simp [Act.put,Array.getD_eq_getD_getElem?,h2,hta]);rw [e]; exact hd'
end Go.Proofs.YtjbaijgdkkccbaaGreatDoor

/- Places in rows of strings; rows of numbers under All. -/
namespace Go.Proofs.YtjbaijgdkkccbaaGreatDoor
open Go.RowKit

def PStrAt (σ : St) (ss : List ByteArray) (v : Value) (w : World) : Prop:=∃ b i,v = .pointer (some ⟨b,i,none⟩)∧i < ss.length∧b≠σ.b∧w.heap[b]? = some (.cells (ss.map Value.string).toArray 9 (0,0))
theorem PStrAt.stays (σ : St) (ss : List ByteArray) : Stays (fun w w'=>But σ.b w w') (PStrAt σ ss):=fun _ _ _ k ⟨b,i,h1,h2,h3,h4⟩=>⟨b,i,h1,h2,h3,k.heap h4 h3⟩
theorem strAt_cell {ss : List ByteArray} {w : World} {b i : Nat} (h : w.heap[b]? = some (.cells (ss.map Value.string).toArray 9 (0,0))) (hi : i < ss.length) (hz : ∀ s ∈ ss,s.size≤1000000) : ∃ r : ByteArray,w.cell? ⟨b,i,none⟩ = some (.string r)∧r.size≤1000000 :=
 ⟨ss[i],cell_at h (by simp [hi]),hz _ (List.getElem_mem hi)⟩
def QInts (zs : List Int) (T : TypeId) (v : Value) (w : World) : Prop:=∃ b,v = .slice (some ⟨b,0,none⟩) zs.length zs.length∧w.heap[b]? = some (.cells (zs.map (Value.int .i64)).toArray T (0,0))
theorem QInts.stays (zs : List Int) (T : TypeId) : Stays All (QInts zs T):=fun _ _ _ k ⟨b,h1,h2⟩=>⟨b,h1,k.heap h2 trivial⟩
end Go.Proofs.YtjbaijgdkkccbaaGreatDoor
