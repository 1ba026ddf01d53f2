/- Sorting what the call gathered: numbers, pairs. -/
import Derived.Test.YtjbaijgdkkccbaaGreatDoorSd
import Derived.Test.YtjbaijgdkkccbaaGreatDoorSn
import Derived.Test.YtjbaijgdkkccbaaGreatDoorZc
import Derived.Laws.AppendOwnNone
namespace Go.Proofs.YtjbaijgdkkccbaaGreatDoor
open Go.RowKit Go.Sort

theorem flat_at (d : Array Pair2) (i : Nat) (hi : i < d.size) : ((flatK encP 2 d).toList.drop (i*2)).take 2 = encP d[i]!:=by
 (have hl : (flatK encP 2 d).toList.length = d.size*2:=by simp);have hg : ∀ t,t < d.size*2→(flatK encP 2 d).toList[t]? = some ((encP d[t / 2]!)[t % 2]!):=fun t ht=>by
  rw [Array.getElem?_toList,Array.getElem?_eq_getElem (by simpa using ht)];have:=get_flatK encP 2 d t ht;rw [getElem!_pos _ t (by simpa using ht)] at this;rw [this]
 have h0:=hg (i*2) (by omega);have h1:=hg (i*2+1) (by omega);rw [show i*2 / 2 = i by omega,show i*2 % 2 = 0 by omega] at h0;rw [show (i*2+1) / 2 = i by omega,show (i*2+1) % 2 = 1 by omega] at h1;obtain ⟨k0,e0⟩:=List.getElem?_eq_some_iff.1 h0;obtain ⟨k1,e1⟩:=List.getElem?_eq_some_iff.1 h1;rw [List.drop_eq_getElem_cons k0,List.drop_eq_getElem_cons k1,List.take_succ_cons,List.take_succ_cons,List.take_zero,e0,e1];rfl

theorem sortP_any {T : TypeId} {F : Nat→Prop} {B : Nat} (v : Value) (ps : List Pair2) (w : World) (h : Acc RPair 2 T F B w v ps) (hl : ps.length≤1000000) :
  Calls Tryz.prog 140 #[v,.func (.func 141) #[] #[]] w fun e w'=>e = .returned (.tuple #[])∧∃ qs : List Pair2,qs.length = ps.length∧Acc RPair 2 T F B w' v qs∧w.grownBy w' v.ownBlock:=by
 obtain ⟨cells,ho,he⟩:=h;have hcl:=ho.1;have eg : ∀ args w,(callFunc 141 args).run Tryz.prog w = .ok (.enter 141 args) w:=enters_of Tryz.func141 (by kernel_rfl) rfl;rcases ho.2 with ⟨rfl,h0⟩ | ⟨g,cap,cur,rfl,hbase,hb,h1,h2,h3,h4⟩
 ·have hnil : ps = []:=List.eq_nil_of_length_eq_zero h0;subst hnil;refine (Tryz.slices_SortFunc_pair_none none 0 _ w).mono ?_;rintro e w' ⟨rfl,rfl⟩;exact ⟨rfl,[],rfl,⟨cells,ho,he⟩,⟨rfl,rfl,rfl,Nat.le_refl _,fun _ _ _=>rfl⟩⟩
 ·have hfl : (flatK encP 2 ps.toArray).toList = cells:=by
   apply List.ext_getElem?
   intro t;by_cases ht : t < ps.length*2
   ·(have hi : t / 2 < ps.length:=by omega);have e1:=flat_at ps.toArray (t / 2) (by simpa using hi);have e2 : (cells.drop (t / 2*2)).take 2 = encP ps[t / 2]:=he (t / 2) hi;(have e3 : ps.toArray[t / 2]! = ps[t / 2]:=by simp [hi]);rw [e3,← e2] at e1;have e4:=congrArg (fun l=>l[t % 2]?) e1;have hm : t % 2 < 2:=Nat.mod_lt _ (by omega);simp only [List.getElem?_take_of_lt hm,List.getElem?_drop] at e4;rw [show t / 2*2+t % 2 = t by omega] at e4;exact e4
   ·rw [List.getElem?_eq_none (by simp; omega),List.getElem?_eq_none (by omega)]
  have hH : HoldsK encP 2 w g 0 ps.toArray:=by
   have h5 : Holds id w g 0 ((flatK encP 2 ps.toArray).toList).toArray:=holdsE_of_block id hb (by rw [hfl,List.map_id,hcl]; exact h4);simpa [HoldsK] using h5
  have hC:=Tryz.slices_SortFunc_pair encP (fun _=>rfl) (fun x v hv=>by simp [encP] at hv; rcases hv with rfl | rfl <;> rfl) cfP swoP 141 #[] g 0 cap ps.toArray w eg (fun _ _ _ _ x y=>pairOrder_grow x.paper x.person y.paper y.person _ x.h1 x.h2 y.h1 y.h2) hH (Array.getElem?_eq_some_iff.1 hb).1 (by simp; omega);simp only [List.size_toArray] at hC;refine hC.mono ?_;rintro e w' ⟨rfl,d',n,os,hp,-,rfl⟩;(have hd : d'.size = ps.length:=by simpa using hp.1);refine ⟨rfl,d'.toList,by simpa using hd,⟨(flatK encP 2 d').toList.map id,?_,fun i hi=>?_⟩,grownE_sorted id _⟩
  ·have hs:=ownsRowE_sorted id (w:=w) (base:=B) (g:=g) (cap:=cap) (n:=n) (m:=ps.length) (sz:=2) (e:=T) (os:=os) (cur:=cur) (ts:=(flatK encP 2 d').toList) (by simp [hd]) hbase hb h1 h2 h3;simpa [hd,sortWorldK,putRowK] using hs
  ·(have hi' : i < d'.size:=by simpa using hi);show _ = encP _
   rw [List.map_id,flat_at d' i hi'];simp [hi']
end Go.Proofs.YtjbaijgdkkccbaaGreatDoor

/- append of all pairs of one slice of the call's own to another. -/
namespace Go.Proofs.YtjbaijgdkkccbaaGreatDoor
open Go.RowKit

theorem Acc.pushPairs {T : TypeId} {B : Nat} {w w' : World} {v v' : Value} {xs ys : List Pair2} {cells news : List Value}
  (ho : w.ownsRow B T 2 v xs.length cells) (he : ∀ (i : Nat) (h : i < xs.length),(cells.drop (i*2)).take 2 = encP xs[i]) (_hn : news.length = ys.length*2) (hy : ∀ (i : Nat) (h : i < ys.length),(news.drop (i*2)).take 2 = encP ys[i])
  (ho' : w'.ownsRow B T 2 v' (xs.length+ys.length) (cells ++ news)) : Acc RPair 2 T (fun _=>False) B w' v' (xs ++ ys):=by
 have hcl:=ho.1;refine ⟨cells ++ news,by simpa using ho',fun i hi=>?_⟩;simp only [List.length_append] at hi;show ((cells ++ news).drop (i*2)).take 2 = encP (xs ++ ys)[i]
 by_cases hlt : i < xs.length
 ·have h2 : (i+1)*2≤xs.length*2:=Nat.mul_le_mul_right _ hlt;rw [List.drop_append_of_le_length (by omega),List.take_append_of_le_length (by simp; omega),List.getElem_append_left hlt];exact he i hlt
 ·have e1 : (cells ++ news).drop (i*2) = news.drop ((i - xs.length)*2):=by
   rw [List.drop_append,List.drop_of_length_le (by omega),List.nil_append,hcl]
   congr 1
   omega
  rw [e1,List.getElem_append_right (by omega)];exact hy (i - xs.length) (by omega)
theorem pairCells_one {ys : List Pair2} {news : List Value} (hn : news.length = ys.length*2) (hy : ∀ (i : Nat) (h : i < ys.length),(news.drop (i*2)).take 2 = encP ys[i]) : ∀ u ∈ news,u.oneCell' = true:=by
 intro u hu;obtain ⟨j,hj,rfl⟩:=List.getElem_of_mem hu;(have hi : j / 2 < ys.length:=by omega);have h1:=hy (j / 2) hi;have h2 : ((news.drop (j / 2*2)).take 2)[j % 2]? = some news[j]:=by
  rw [List.getElem?_take_of_lt (by omega),List.getElem?_drop,List.getElem?_eq_getElem (by omega)]
  congr 2
  omega
 rw [h1] at h2;(have h3 : j % 2 = 0∨j % 2 = 1:=by omega);rcases h3 with e | e
 ·rw [e] at h2;simp only [encP,List.getElem?_cons_zero,Option.some.injEq] at h2;rw [← h2]; rfl
 ·rw [e] at h2;simp only [encP,List.getElem?_cons_succ,List.getElem?_cons_zero,Option.some.injEq] at h2;rw [← h2]; rfl

theorem wp_appendP {P : Program} (w : World) {ops : Array Oper} {rest : List Oper} {o : Oper} {a : Act} {Q : Exit→Act→World→Prop} (hgd : o.guard = none) (s x : Operand) (t : TypeId)
  (ho : o.op = .call { callee:=.builtin .append,args:=#[s,x],argTypes:=#[t,t] })
  (B : Nat) (e : TypeId) (bytes : Nat) (ht : P.underlying t = some (.slice e)) (hi : (P.info? e).map (fun i=>(i.zero,i.size,i.bytes)) = some (some (.agg #[.string ⟨#[]⟩,.string ⟨#[]⟩]),2,bytes))
  (v : Value) (xs : List Pair2) (hs : a.eval s = v) (h1 : Acc RPair 2 e (fun _=>False) B w v xs) (B0 : Nat) (u : Value) (ys : List Pair2) (hx : a.eval x = u) (h0 : Acc RPair 2 e (fun _=>False) B0 w u ys)
  (hb1 : xs.length+ys.length≤1000000) (hb2 : bytes≤100000) (hbase : B≤w.heap.size)
  (h : ∀ p' c' w',Acc RPair 2 e (fun _=>False) B w' (.slice p' (xs.length+ys.length) c') (xs ++ ys)→w.grownBy w' v.ownBlock→((Value.slice p' (xs.length+ys.length) c').ownBlock = v.ownBlock∨(Value.slice p' (xs.length+ys.length) c').ownBlock = some w.heap.size)→wpList P ops Q rest (a.put o.dst (.slice p' (xs.length+ys.length) c')) w') :
  wpList P ops Q (o :: rest) a w:=by
 obtain ⟨i0,hi,hz0,hz1,hz2⟩:=info_parts hi;have h1':=h1;obtain ⟨cells,hown,he⟩:=h1;obtain ⟨news,hown0,he0⟩:=h0;rcases hown0.2 with ⟨rfl,hz⟩ | ⟨g,cap,cur,rfl,-,-,-⟩
 ·have hy : ys = []:=List.eq_nil_of_length_eq_zero hz;subst hy;refine wpList_append_own_none hgd s x t ho B e i0 2 ht hi v xs.length cells hs hown hx ?_;obtain ⟨p',c',rfl,-⟩:=h1'.form;have:=h p' c' w (by simpa using h1') ⟨rfl,rfl,rfl,Nat.le_refl _,fun _ _ _=>rfl⟩ (Or.inl (by simp [Value.ownBlock]));simpa using this
 ·refine wpList_append_own_at w hgd s x t ho B e i0 _ 2 bytes ht hi hz0 hz1 hz2 rfl (by decide) v xs.length cells hs hown ⟨g,0,none⟩ ys.length cap news hx hown0.1 (hown0.cells (g:=g) rfl) (pairCells_one hown0.1 (fun i hi=>he0 i hi)) (by unfold maxLen; omega) ?_ hbase ?_
  ·calc (xs.length+ys.length)*bytes≤1000000*100000:=Nat.mul_le_mul hb1 hb2
    _≤140737488355328:=by decide
  ·intro v' w' ho' hg _ hat
   have hp:=Acc.pushPairs hown (fun i hi=>he i hi) hown0.1 (fun i hi=>he0 i hi) ho';obtain ⟨p',c',rfl,_⟩:=hp.form;simp only [List.length_append] at *;exact h p' c' w' hp hg hat
end Go.Proofs.YtjbaijgdkkccbaaGreatDoor
