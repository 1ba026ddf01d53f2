/- Maps of the call's own whose keys are pairs of strings ([2]string), with whatever values; an element that is appended to in its place; ranging over them. No program in sight. -/
import Derived.Test.YtjbaijgdkkccbaaGreatDoorBg
import Derived.WideKeyPair
import Derived.WideKeyEntry
import Derived.Test.YtjbaijgdkkccbaaGreatDoorZn
import Derived.DeepKeys3
import Derived.Test.YtjbaijgdkkccbaaGreatDoorProg
namespace Go.Proofs.YtjbaijgdkkccbaaGreatDoor
open Go.RowKit
open Go.Maps (Keyed IsMap)
open Go.WideMaps (ArrKey)

abbrev K2 : Type:=ByteArray × ByteArray
def valK (q : K2) : Value:=.agg #[.string q.1,.string q.2]
def litK (q : K2) : Lit:=.string (keyBytes [.string q.1.data.toList,.string q.2.data.toList])
def okK (q : K2) : Prop:=q.1.size≤1000000∧q.2.size≤1000000
structure IsK2 (P : Program) (k : TypeId) : Prop where
 law : WideMaps.KeyLaw P k
 key : ∀ {q : K2},okK q→keyOf P k (valK q) = some (litK q)
theorem valK_inj {a b : K2} (h : valK a = valK b) : a = b:=by
 unfold valK at h;simp only [Value.agg.injEq,Array.mk.injEq,List.cons.injEq,Value.string.injEq,and_true] at h;exact Prod.ext h.1 h.2
section
variable {P : Program} {k : TypeId}
theorem IsK2.keyed (h : IsK2 P k) : Keyed P k:=Keyed.of_law h.law
theorem IsK2.litInj (h : IsK2 P k) {a b : K2} (ha : okK a) (hb : okK b) (e : litK a = litK b) : a = b :=
 valK_inj (h.keyed.inj (h.key ha) (by rw [e]; exact h.key hb))
end
theorem litK_key (q : K2) : WideAt.IsKeyLit (litK q):=by simp [litK,WideAt.IsKeyLit]

def SaysK (D : DataW Value) (m : K2→Option Value) : Prop :=
 (∀ q,okK q→Maps.has D (litK q) = (m q).isSome∧∀ z,D.atKey (litK q) (.held z) = .held ((m q).getD z))∧∀ l,Maps.has D l = true→∃ q,okK q∧l = litK q
def MapK (P : Program) (k : TypeId) (w : World) (b n : Nat) (m : K2→Option Value) : Prop :=
 ∃ D : DataW Value,w.ownsMap P k heldR b n D∧SaysK D m
open Classical in
noncomputable def putK (m : K2→Option Value) (s : K2) (v : Value) : K2→Option Value:=fun x=>if x = s then some v else m x
theorem putK_same (m : K2→Option Value) (s : K2) (v : Value) : putK m s v s = some v:=by simp [putK]
theorem putK_other {m : K2→Option Value} {s x : K2} {v : Value} (h : x≠s) : putK m s v x = m x:=by simp [putK,h]

theorem one_entry : ∀ {l : List MapEntry} {a b : MapEntry},l.Pairwise (fun x y=>x.key≠y.key)→a ∈ l→b ∈ l→a.key = b.key→a = b
 | [],_,_,_,h,_,_=>by cases h
 | x :: l,a,b,hp,ha,hb,e=>by
  obtain ⟨h1,h2⟩:=List.pairwise_cons.1 hp;rcases List.mem_cons.1 ha with ea | ha'
  ·rcases List.mem_cons.1 hb with eb | hb'
   ·rw [ea,eb]
   ·exact absurd (by rw [← ea]; exact e) (h1 b hb')
  ·rcases List.mem_cons.1 hb with eb | hb'
   ·exact absurd (by rw [← eb]; exact e.symm) (h1 a ha')
   ·exact one_entry h2 ha' hb' e
section
variable {P : Program} {k e t : TypeId} {w w' : World} {b n : Nat} {m : K2→Option Value}
theorem SaysK.put (hK : IsK2 P k) {D : DataW Value} (hM : IsMap D) (h : SaysK D m) {q : K2} (hq : okK q) (v : Value) : SaysK (D.put (litK q) (.held v)) (putK m q v):=by
 refine ⟨fun x hx=>?_,fun l hl=>?_⟩
 ·by_cases hxq : x = q
  ·subst hxq;refine ⟨?_,fun z=>?_⟩
   ·rw [Go.Maps.has_put_same hM (litK_key x),putK_same]; rfl
   ·rw [Go.Maps.atKey_put_same hM (litK_key x),putK_same]; rfl
  ·(have hne : litK x≠litK q:=fun e=>hxq (hK.litInj hx hq e));refine ⟨?_,fun z=>?_⟩
   ·rw [Go.Maps.has_put_other hne,putK_other hxq,(h.1 x hx).1]
   ·rw [Go.Maps.atKey_put_other hne,putK_other hxq,(h.1 x hx).2]
 ·by_cases hlq : l = litK q
  ·exact ⟨q,hq,hlq⟩
  ·rw [Go.Maps.has_put_other hlq] at hl;exact h.2 l hl
theorem MapK.made (P : Program) (k : TypeId) (w : World) : MapK P k (w.alloc (.map #[] 0)) w.heap.size 0 (fun _=>none) :=
 ⟨.map [],World.ownsMap_made _ _ _ _,fun _ _=>⟨rfl,fun _=>rfl⟩,fun l h=>by simp [Maps.has] at h⟩
theorem MapK.lt (h : MapK P k w b n m) : b < w.heap.size:=by
 obtain ⟨D,h1,_⟩:=h;exact h1.lt
theorem MapK.keep {F : Nat→Prop} (h : MapK P k w b n m) (hk : Kept F w w') (hF : F b) : MapK P k w' b n m:=by
 have hl:=h.lt;obtain ⟨D,⟨es,clock,hb,F',hs,hD⟩,h3⟩:=h;exact ⟨D,⟨es,clock,(hk.block b hl hF).trans hb,F',hs,hD⟩,h3⟩
theorem MapK.congr {m' : K2→Option Value} (h : MapK P k w b n m) (hm : ∀ s,m s = m' s) : MapK P k w b n m':=by
 have : m = m':=funext hm;rw [← this]; exact h
theorem MapK.up {n' : Nat} (h : MapK P k w b n m) (hn : n≤n') : MapK P k w b n' m:=by
 obtain ⟨D,h1,h3⟩:=h;exact ⟨D,h1.mono hn,h3⟩
theorem MapK.entry (h : MapK P k w b n m) (hK : IsK2 P k) (ht : P.underlying t = some (.map k e)) {z : Value} (hz : ∀ u : World,(zeroValue e).run P u = .ok z u) (hn : n≤1000000) {q : K2} (hq : okK q) :
  ∃ (st : Nat) (w1 : World),(Instr.mapEntry t (.map (some b)) (valK q)).run P w = .ok (.tuple #[(m q).getD z,goInt st]) w1∧But b w w1∧w1.heap.size = w.heap.size ∧
   ∀ (w2 : World) (v : Value),w2.heap[b]? = w1.heap[b]?→∃ w3,(Instr.entryStore t (.map (some b)) (goInt st) v).run P w2 = .ok () w3∧MapK P k w3 b (n+1) (putK m q v)∧But b w2 w3∧w3.heap.size = w2.heap.size:=by
 obtain ⟨D,h1,h3⟩:=h;have hM:=h1.isMap;(have hup:=fun v : Value=>h1.update hK.keyed ht (show n < maxLen by unfold maxLen; omega) (hK.key hq) (heldR_mk v));have hlk:=h1.lookup hK.keyed ht (hz w) (heldR_mk z) (hK.key hq);obtain ⟨v1,ps,hlook,hv1⟩:=hlk;rw [(h3.1 q hq).2 z] at hv1;simp only [heldR,Option.some.injEq,Prod.mk.injEq,DataW.held.injEq] at hv1;obtain ⟨es,clock,hb,F',hs,hD⟩:=h1;obtain ⟨v0,st,es1,clock1,hme,hv0,hst⟩:=WideElems.entry_then_store hK.law ht hz hb F' (hK.key hq);have hbut : ∀ (wx : World) (o : Obj),b < wx.heap.size→But b wx (ChangeMaps.setBlock wx b o)∧(ChangeMaps.setBlock wx b o).heap.size = wx.heap.size∧(ChangeMaps.setBlock wx b o).heap[b]? = some o:=fun wx o hlt=>by
  refine ⟨⟨rfl,rfl,rfl,by simp [ChangeMaps.setBlock],fun i hi hne=>?_⟩,by simp [ChangeMaps.setBlock],by simp [ChangeMaps.setBlock,hlt]⟩;(have hne' : b≠i:=fun e=>hne e.symm);simp [ChangeMaps.setBlock,hne']
 have hbl:=(Array.getElem?_eq_some_iff.1 hb).1;have hv : v0 = (m q).getD z:=by
  have hpw : es.toList.Pairwise (fun x y=>x.key≠y.key):=((MapKept.stamped_iff es clock).1 F'.stamped).2.2;rcases Maps.fit_look false hK.keyed ht (hz w) hb F' (hK.key hq) with ⟨hr,hno,-⟩ | ⟨e0,y,hm0,hk0,hr,-⟩
  ·rw [hlook] at hr;simp only [if_false,Result.ok.injEq,and_true,Bool.false_eq_true] at hr;rcases hv0 with ⟨e1,hm1,hk1,-⟩ | ⟨-,h0⟩
   ·exact absurd hk1 (hno e1 hm1)
   ·rw [h0,← hv1.1]; exact hr.symm
  ·rw [hlook] at hr;simp only [if_false,Result.ok.injEq,and_true,Bool.false_eq_true] at hr;rcases hv0 with ⟨e1,hm1,hk1,h0⟩ | ⟨hno,-⟩
   ·rw [h0,one_entry hpw hm1 hm0 (hk1.trans hk0.symm),← hv1.1]; exact hr.symm
   ·exact absurd hk0 (hno e0 hm0)
 obtain ⟨b1,b2,b3⟩:=hbut w (.map es1 clock1) hbl;refine ⟨st,_,by rw [← hv]; exact hme,b1,b2,fun w2 v hw2=>?_⟩;rw [b3] at hw2;obtain ⟨es',clock',hr1,hr2⟩:=hst w2 v hw2;obtain ⟨wu,hru,hown,-⟩:=hup v;rw [hr2] at hru
 cases hru
 have hl2:=(Array.getElem?_eq_some_iff.1 hw2).1;obtain ⟨c1,c2,c3⟩:=hbut w2 (.map es' clock') hl2;refine ⟨_,hr1,⟨_,?_,SaysK.put hK hM h3 hq v⟩,c1,c2⟩;obtain ⟨es2,clock2,hb2,F2,hs2,hD2⟩:=hown;obtain ⟨-,-,d3⟩:=hbut w (.map es' clock') hbl;rw [d3] at hb2;exact ⟨es2,clock2,c3.trans hb2,F2,hs2,hD2⟩
end

def RangeK (P : Program) (k : TypeId) (w : World) (b r n : Nat) (m : K2→Option Value) (left : K2→Prop) (cnt : Nat) : Prop :=
 ∃ (D : DataW Value) (lf : Lit→Bool),w.ranges P k heldR b r n D lf cnt∧SaysK D m∧∀ q,okK q→(lf (litK q) = true ↔ left q)
section
variable {P : Program} {k e t : TypeId} {w w' : World} {b r n cnt : Nat} {m : K2→Option Value} {left : K2→Prop}
theorem RangeK.left_eq (h : RangeK P k w b r n m left cnt) : w.rangeLeft b r = cnt:=by
 obtain ⟨D,lf,h1,h2,h3⟩:=h;exact h1.left_eq
theorem RangeK.map (h : RangeK P k w b r n m left cnt) : MapK P k w b n m:=by
 obtain ⟨D,lf,h1,h2,h3⟩:=h;exact ⟨D,h1.owns,h2⟩
theorem RangeK.ne (h : RangeK P k w b r n m left cnt) : r≠b:=by
 obtain ⟨D,lf,h1,h2,h3⟩:=h;exact h1.ne
theorem RangeK.lt (h : RangeK P k w b r n m left cnt) : r < w.heap.size:=by
 obtain ⟨D,lf,h1,h2,h3⟩:=h;exact h1.lt
theorem RangeK.keep {F : Nat→Prop} (h : RangeK P k w b r n m left cnt) (hk : Kept F w w') (hb' : F b) (hr' : F r) : RangeK P k w' b r n m left cnt:=by
 have hbl:=h.map.lt;have hrl:=h.lt;obtain ⟨D,lf,⟨es,clock,since,seen,c0,hb,F,hs,hD,hr,rest⟩,h2,h3⟩:=h;exact ⟨D,lf,⟨es,clock,since,seen,c0,(hk.block b hbl hb').trans hb,F,hs,hD,(hk.block r hrl hr').trans hr,rest⟩,h2,h3⟩
theorem MapK.range (h : MapK P k w b n m) (hK : IsK2 P k) (ht : P.underlying t = some (.map k e)) :
  ∃ w' cnt,(Instr.range t (.map (some b))).run P w = .ok (.pointer (some ⟨w.heap.size,0,none⟩)) w'∧RangeK P k w' b w.heap.size n m (fun q=>(m q).isSome = true) cnt∧All w w'∧w'.heap.size = w.heap.size+1:=by
 obtain ⟨D,h1,h3⟩:=h;obtain ⟨w',hrun,h4,hg,hsz⟩:=h1.range hK.keyed ht;exact ⟨w',_,hrun,⟨D,_,h4,h3,fun q hq=>by rw [(h3.1 q hq).1]⟩,(Kept.refl _ _).grown hg (fun k hk=>by cases hk),hsz⟩
theorem RangeK.next (h : RangeK P k w b r n m left cnt) (hK : IsK2 P k) (ty : TypeId) :
  ((∀ q,okK q→¬ left q)∧(Instr.next (.pointer (some ⟨r,0,none⟩)) false ty).run P w = .ok (.tuple #[.bool false]) w) ∨
  ∃ (q : K2) (v : Value) (w' : World) (cnt' : Nat),okK q∧left q∧m q = some v∧(Instr.next (.pointer (some ⟨r,0,none⟩)) false ty).run P w = .ok (.tuple #[.bool true,valK q,v]) w' ∧
   RangeK P k w' b r n m (fun x=>left x∧x≠q) cnt'∧cnt' < cnt∧But r w w'∧w'.heap.size = w.heap.size∧(Instr.entry (.pointer (some ⟨r,0,none⟩))).run P w' = .ok (.tuple #[valK q,v]) w':=by
 obtain ⟨D,lf,h1,h2,h3⟩:=h;rcases h1.next hK.keyed ty with ⟨-,hl,hrun⟩ | ⟨key,v,kl,y,w',cnt',hkey,hlk,hv,hat,hrun,hrg,hlt,hgr,hsz,hen⟩
 ·exact Or.inl ⟨fun q hq hlq=>by (rw [← h3 q hq,hl] at hlq; cases hlq),hrun⟩
 ·obtain ⟨q,hq,rfl⟩:=h2.2 kl (Go.Maps.has_true_of_atKey hat);obtain rfl : key = valK q:=hK.keyed.inj hkey (hK.key hq);have hy : y = (.held v,[]):=by
   have:=heldR_mk v;rw [hv] at this;injection this
  subst hy;have hms : m q = some v:=by
   have e0:=hat (.held v);rw [(h2.1 q hq).2] at e0;have hh : Maps.has D (litK q) = true:=Go.Maps.has_true_of_atKey hat
   rw [(h2.1 q hq).1] at hh;obtain ⟨u,hu⟩:=Option.isSome_iff_exists.1 hh;rw [hu] at e0 ⊢;simp only [Option.getD_some,DataW.held.injEq] at e0;rw [e0]
  refine Or.inr ⟨q,v,w',cnt',hq,(h3 q hq).1 hlk,hms,hrun,⟨D,_,hrg,h2,fun x hx=>?_⟩,hlt,(Kept.refl _ _).grown hgr (fun k hk=>by cases hk; exact Or.inr (by simp)),hsz,hen⟩;show ((lf (litK x) && !(litK x).sameKey (litK q)) = true) ↔ _
  rw [Bool.and_eq_true,h3 x hx];by_cases hxq : x = q
  ·subst hxq;rw [WideAt.sameKey_self (litK_key x)];simp
  ·rw [Go.Maps.sameKey_ne (fun e=>hxq (hK.litInj hx hq e))];simp [hxq]
end
end Go.Proofs.YtjbaijgdkkccbaaGreatDoor

/- Maps from pairs of strings to rows of the call's own, of whatever flat elements. No program in sight. -/
namespace Go.Proofs.YtjbaijgdkkccbaaGreatDoor
open Go.RowKit

open Classical in
noncomputable def updK {β : Type} (f : K2→β) (p : K2) (y : β) : K2→β:=fun q=>if q = p then y else f q
theorem updK_same {β : Type} (f : K2→β) (p : K2) (y : β) : updK f p y p = y:=by simp [updK]
theorem updK_other {β : Type} {f : K2→β} {p q : K2} {y : β} (h : q≠p) : updK f p y q = f q:=by simp [updK,h]
structure RowK {α : Type} (P : Program) (tk : TypeId) (R : Rel α) (sz : Nat) (T : TypeId) (w : World) (B mb n : Nat) (vals : K2→Value) (f : K2→List α) : Prop where
 map : MapK P tk w mb n (fun p=>if (f p).isEmpty = true then none else some (vals p))
 acc : ∀ p,Acc R sz T (fun _=>False) B w (vals p) (f p)
 nil : ∀ p,f p = []→vals p = .slice none 0 0
 sep : ∀ p q k,p≠q→(vals p).ownBlock = some k→(vals q).ownBlock≠some k
section
variable {α : Type} {P : Program} {tk : TypeId} {R : Rel α} {enc : α→List Value} {S : α→Prop} {sz : Nat} {T : TypeId} {w w' w2 : World} {B mb n : Nat} {vals : K2→Value} {f : K2→List α}
theorem RowK.start (P : Program) (tk : TypeId) (R : Rel α) (sz : Nat) (T : TypeId) (w : World) (B : Nat) : RowK P tk R sz T (w.alloc (.map #[] 0)) B w.heap.size 0 (fun _=>.slice none 0 0) (fun _=>[]) :=
 ⟨(MapK.made P tk w).congr (fun _=>by simp),fun _=>Acc.nil _ _ _ _ _ _,fun _ _=>rfl,fun p q k _ h=>by simp [Value.ownBlock] at h⟩
theorem RowK.keep (hR : Flat R enc S sz) (h : RowK P tk R sz T w B mb n vals f) (k : All w w') : RowK P tk R sz T w' B mb n vals f :=
 ⟨h.map.keep k trivial,fun p=>(h.acc p).keepAll hR.ok k,h.nil,h.sep⟩
theorem RowK.getD (h : RowK P tk R sz T w B mb n vals f) (p : K2) : ((fun p=>if (f p).isEmpty = true then none else some (vals p)) p).getD (.slice none 0 0) = vals p:=by
 by_cases hf : f p = []
 ·simp [hf,h.nil p hf]
 ·simp [hf]
theorem RowK.entry (hR : Flat R enc S sz) (h : RowK P tk R sz T w B mb n vals f) {t te : TypeId} (hK : IsK2 P tk) (ht : P.underlying t = some (.map tk te)) (hz : ∀ u : World,(zeroValue te).run P u = .ok (.slice none 0 0) u) (hmB : mb < B) (hn : n≤1000000) {q : K2} (hq : okK q) :
  ∃ (st : Nat) (w1 : World),(Instr.mapEntry t (.map (some mb)) (valK q)).run P w = .ok (.tuple #[vals q,goInt st]) w1∧But mb w w1∧w1.heap.size = w.heap.size∧Acc R sz T (fun _=>False) B w1 (vals q) (f q) ∧
   ∀ (w2 : World) (v : Value) (x : α),w1.grownBy w2 (vals q).ownBlock→Acc R sz T (fun _=>False) B w2 v (f q ++ [x])→(v.ownBlock = (vals q).ownBlock∨v.ownBlock = some w1.heap.size) →
    ∃ w3,(Instr.entryStore t (.map (some mb)) (goInt st) v).run P w2 = .ok () w3∧RowK P tk R sz T w3 B mb (n+1) (updK vals q v) (updK f q (f q ++ [x]))∧But mb w2 w3∧w3.heap.size = w2.heap.size:=by
 obtain ⟨st,w1,hrun,hb1,hs1,hst⟩:=h.map.entry hK ht hz hn hq;rw [h.getD q] at hrun;(have hneb : ∀ p i,(vals p).ownBlock = some i→i≠mb:=fun p i hi=>by have:=((h.acc p).lt i hi).1; omega);refine ⟨st,w1,hrun,hb1,hs1,(h.acc q).flatKeep hR hb1 (hneb q),fun w2 v x hg hacc hat=>?_⟩;have hkp : Kept (fun k=>(vals q).ownBlock≠some k) w1 w2:=⟨hg.os,hg.tape,hg.output,hg.size,fun k hk hf=>hg.block k hk (fun e=>hf e.symm)⟩;have hmlt:=h.map.lt;obtain ⟨w3,hrun3,hmap3,hb3,hs3⟩:=hst w2 v (hkp.block mb (by omega) (fun e=>hneb q mb e rfl));refine ⟨w3,hrun3,⟨hmap3.congr (fun p=>?_),fun p=>?_,fun p hp=>?_,fun a b k hab ha=>?_⟩,hb3,hs3⟩
 ·by_cases hpq : p = q
  ·subst hpq; simp [putK,updK]
  ·simp [putK,updK,hpq]
 ·by_cases hpq : p = q
  ·subst hpq;rw [updK_same,updK_same];exact hacc.flatKeep hR hb3 (fun k hk=>by have:=(hacc.lt k hk).1; omega)
  ·rw [updK_other hpq,updK_other hpq];have h0:=(h.acc p).flatKeep hR hb1 (hneb p);have h1:=h0.flatKeep hR hkp (fun k hk e=>h.sep p q k hpq hk e);exact h1.flatKeep hR hb3 (hneb p)
 ·by_cases hpq : p = q
  ·subst hpq; rw [updK_same] at hp; simp at hp
  ·rw [updK_other hpq] at hp ⊢;exact h.nil p hp
 ·by_cases haq : a = q
  ·subst haq;(have hba : b≠a:=fun e=>hab e.symm);rw [updK_same] at ha;rw [updK_other hba];rcases hat with e | e
   ·rw [e] at ha; exact h.sep a b k hab ha
   ·rw [e] at ha
    cases ha
    intro hk;have:=((h.acc b).lt _ hk).2;omega
  ·rw [updK_other haq] at ha;by_cases hbq : b = q
   ·subst hbq;rw [updK_same];intro hk;rcases hat with e | e
    ·rw [e] at hk; exact h.sep a b k hab ha hk
    ·rw [e] at hk
     cases hk
     have:=((h.acc a).lt _ ha).2;omega
   ·rw [updK_other hbq];exact h.sep a b k hab ha
end
end Go.Proofs.YtjbaijgdkkccbaaGreatDoor

/- Maps from pairs of strings (a struct of two) to rows: look-up and store; the key api.Pair. -/
namespace Go.Proofs.YtjbaijgdkkccbaaGreatDoor
open Go.RowKit

theorem MapK.look {P : Program} {k e t : TypeId} {w : World} {b n : Nat} {m : K2→Option Value} (h : MapK P k w b n m) (hK : IsK2 P k) (ht : P.underlying t = some (.map k e)) {z : Value} (hz : (zeroValue e).run P w = .ok z w) {q : K2} (hq : okK q) :
  (Instr.lookup t (.map (some b)) (valK q) false).run P w = .ok ((m q).getD z) w:=by
 obtain ⟨D,h1,h3⟩:=h;obtain ⟨v,ps,hrun,hv⟩:=h1.lookup hK.keyed ht hz (heldR_mk z) (hK.key hq);rw [(h3.1 q hq).2 z] at hv;simp only [heldR,Option.some.injEq,Prod.mk.injEq,DataW.held.injEq] at hv;rw [hrun,hv.1]
theorem MapK.look_ok {P : Program} {k e t : TypeId} {w : World} {b n : Nat} {m : K2→Option Value} (h : MapK P k w b n m) (hK : IsK2 P k) (ht : P.underlying t = some (.map k e)) {z : Value} (hz : (zeroValue e).run P w = .ok z w) {q : K2} (hq : okK q) :
  (Instr.lookup t (.map (some b)) (valK q) true).run P w = .ok (.tuple #[(m q).getD z,.bool (m q).isSome]) w:=by
 obtain ⟨D,h1,h3⟩:=h;obtain ⟨v,ps,hrun,hv⟩:=h1.look_ok hK.keyed ht hz (heldR_mk z) (hK.key hq);rw [(h3.1 q hq).2 z] at hv;simp only [heldR,Option.some.injEq,Prod.mk.injEq,DataW.held.injEq] at hv;rw [hrun,hv.1,(h3.1 q hq).1]
theorem MapK.put {P : Program} {k e t : TypeId} {w : World} {b n : Nat} {m : K2→Option Value} (h : MapK P k w b n m) (hK : IsK2 P k) (ht : P.underlying t = some (.map k e)) (hn : n≤1000000) {q : K2} (hq : okK q) (v : Value) :
  ∃ w',(Instr.mapUpdate t (.map (some b)) (valK q) v).run P w = .ok () w'∧MapK P k w' b (n+1) (putK m q v)∧But b w w':=by
 obtain ⟨D,h1,h3⟩:=h;obtain ⟨w',hrun,h4,hg⟩:=h1.update hK.keyed ht (show n < maxLen by unfold maxLen; omega) (hK.key hq) (heldR_mk v);exact ⟨w',hrun,⟨_,h4,SaysK.put hK h1.isMap h3 hq v⟩,(Kept.refl _ _).grown hg (fun k hk=>by cases hk; exact Or.inr (by simp))⟩
section
variable {α : Type} {P : Program} {tk : TypeId} {R : Rel α} {enc : α→List Value} {S : α→Prop} {sz : Nat} {T : TypeId} {w w' w2 : World} {B mb n : Nat} {vals : K2→Value} {f : K2→List α}
theorem RowK.look (h : RowK P tk R sz T w B mb n vals f) {t te : TypeId} (hkh : IsK2 P tk) (ht : P.underlying t = some (.map tk te)) (hz : (zeroValue te).run P w = .ok (.slice none 0 0) w) {p : K2} (hp : okK p) :
  (Instr.lookup t (.map (some mb)) (valK p) false).run P w = .ok (vals p) w:=by
 have h1:=h.map.look hkh ht hz hp;rw [h1];by_cases hf : f p = []
 ·simp [hf,h.nil p hf]
 ·simp [hf]
theorem RowK.look_ok (h : RowK P tk R sz T w B mb n vals f) {t te : TypeId} (hkh : IsK2 P tk) (ht : P.underlying t = some (.map tk te)) (hz : (zeroValue te).run P w = .ok (.slice none 0 0) w) {p : K2} (hp : okK p) :
  (Instr.lookup t (.map (some mb)) (valK p) true).run P w = .ok (.tuple #[vals p,.bool !(f p).isEmpty]) w:=by
 have h1:=h.map.look_ok hkh ht hz hp;rw [h1];by_cases hf : f p = []
 ·simp [hf,h.nil p hf]
 ·simp [hf]
theorem RowK.putAt {W0 : World} {t te : TypeId} (h : RowK P tk R sz T w B mb n vals f) (hkh : IsK2 P tk) (ht : P.underlying t = some (.map tk te)) (hmB : mb < B) {p : K2} (hg : W0.grownBy w' (vals p).ownBlock) (hk : All w W0) (hn : n≤1000000) (hp : okK p) (v' : Value) :
  ∃ w2,(Instr.mapUpdate t (.map (some mb)) (valK p) v').run P w' = .ok () w2∧MapK P tk w2 mb (n+1) (putK (fun p=>if (f p).isEmpty = true then none else some (vals p)) p v')∧But mb w' w2:=by
 have h0:=h.map.keep hk trivial;have hkp : Kept (fun k=>(vals p).ownBlock≠some k) W0 w':=⟨hg.os,hg.tape,hg.output,hg.size,fun k hk hf=>hg.block k hk (fun e=>hf e.symm)⟩;have h1:=h0.keep hkp (fun e=>by have:=((h.acc p).lt _ e).1; omega);exact h1.put hkh ht hn hp v'
theorem RowK.push (hR : Flat R enc S sz) (h : RowK P tk R sz T w B mb n vals f) (hmB : mb < B) {p : K2} {x : α} {v' : Value} (hacc : Acc R sz T (fun _=>False) B w' v' (f p ++ [x])) (hg : w.grownBy w' (vals p).ownBlock) (hat : v'.ownBlock = (vals p).ownBlock∨v'.ownBlock = some w.heap.size)
  (hm : MapK P tk w2 mb (n+1) (putK (fun p=>if (f p).isEmpty = true then none else some (vals p)) p v')) (hb : But mb w' w2) :
  RowK P tk R sz T w2 B mb (n+1) (fun q=>if q = p then v' else vals q) (fun q=>if q = p then f p ++ [x] else f q):=by
 have hkp : Kept (fun k=>(vals p).ownBlock≠some k) w w':=⟨hg.os,hg.tape,hg.output,hg.size,fun k hk hf=>hg.block k hk (fun e=>hf e.symm)⟩;refine ⟨hm.congr (fun q=>?_),fun q=>?_,fun q hq=>?_,fun a b k hab ha=>?_⟩
 ·by_cases hq : q = p
  ·subst hq; simp [putK]
  ·simp [putK,hq]
 ·by_cases hq : q = p
  ·subst hq;simp only [if_true];exact hacc.flatKeep hR hb (fun k hk=>by have:=(hacc.lt k hk).1; omega)
  ·simp only [hq,if_false];have h1:=(h.acc q).flatKeep hR hkp (fun k hk e=>h.sep q p k hq hk e);exact h1.flatKeep hR hb (fun k hk=>by have:=(h1.lt k hk).1; omega)
 ·by_cases hqp : q = p
  ·simp [hqp] at hq
  ·simp only [hqp,if_false] at hq ⊢;exact h.nil q hq
 ·by_cases hap : a = p
  ·subst hap;(have hbp : ¬ b = a:=fun e=>hab e.symm);simp only [if_true] at ha;simp only [hbp,if_false];rcases hat with e | e
   ·rw [e] at ha; exact h.sep a b k hab ha
   ·rw [e] at ha
    cases ha
    intro hk;have:=((h.acc b).lt _ hk).2;omega
  ·simp only [hap,if_false] at ha;by_cases hbp : b = p
   ·subst hbp;simp only [if_true];intro hk;rcases hat with e | e
    ·rw [e] at hk; exact h.sep a b k hab ha hk
    ·rw [e] at hk
     cases hk
     have:=((h.acc a).lt _ ha).2;omega
   ·simp only [hbp,if_false];exact h.sep a b k hab ha
theorem RowK.putLate {w3 : World} {t te : TypeId} (h : RowK P tk R sz T w B mb n vals f) (hkh : IsK2 P tk) (ht : P.underlying t = some (.map tk te)) (hmB : mb < B) {p : K2} (hg : w.grownBy w' (vals p).ownBlock) (hl : All w' w3) (hn : n≤1000000) (hp : okK p) (v' : Value) :
  ∃ w2,(Instr.mapUpdate t (.map (some mb)) (valK p) v').run P w3 = .ok () w2∧MapK P tk w2 mb (n+1) (putK (fun p=>if (f p).isEmpty = true then none else some (vals p)) p v')∧But mb w3 w2:=by
 have hkp : Kept (fun k=>(vals p).ownBlock≠some k) w w':=⟨hg.os,hg.tape,hg.output,hg.size,fun k hk hf=>hg.block k hk (fun e=>hf e.symm)⟩;have h1:=(h.map.keep hkp (fun e=>by have:=((h.acc p).lt _ e).1; omega)).keep hl trivial;exact h1.put hkh ht hn hp v'
theorem RowK.pushLate {w3 : World} (hR : Flat R enc S sz) (h : RowK P tk R sz T w B mb n vals f) (hmB : mb < B) {p : K2} {x : α} {v' : Value} (hacc : Acc R sz T (fun _=>False) B w' v' (f p ++ [x])) (hg : w.grownBy w' (vals p).ownBlock) (hat : v'.ownBlock = (vals p).ownBlock∨v'.ownBlock = some w.heap.size) (hl : All w' w3)
  (hm : MapK P tk w2 mb (n+1) (putK (fun p=>if (f p).isEmpty = true then none else some (vals p)) p v')) (hb : But mb w3 w2) :
  RowK P tk R sz T w2 B mb (n+1) (fun q=>if q = p then v' else vals q) (fun q=>if q = p then f p ++ [x] else f q) :=
 RowK.push hR h hmB hacc hg hat hm ((Kept.all hl).trans hb)
end
theorem MapK.lookAfter {P : Program} {k t te : TypeId} {w w' : World} {b n : Nat} {G : Nat→Prop} {α : Type} {f : K2→List α} {vals : K2→Value} (h : MapK P k w b n (fun p=>if (f p).isEmpty = true then none else some (vals p))) (hk : Kept G w w') (hG : G b) (hkk : IsK2 P k) (ht : P.underlying t = some (.map k te)) (hz : (zeroValue te).run P w' = .ok (.slice none 0 0) w') (hnil : ∀ p,f p = []→vals p = .slice none 0 0) {p : K2} (hp : okK p) :
  (Instr.lookup t (.map (some b)) (valK p) false).run P w' = .ok (vals p) w':=by
 have h1:=(h.keep hk hG).look hkk ht hz hp;rw [h1];by_cases hf : f p = []
 ·simp [hf,hnil p hf]
 ·simp [hf]

theorem isK2P : IsK2 Tryz.prog 39:=by
 refine ⟨Go.deep_law (m:=2) (by omega) (by kernel_rfl) (by kernel_rfl) (by kernel_rfl),fun {q} hq=>?_⟩;(have h1 : q.1.size≤maxLen:=by have:=hq.1; unfold maxLen; omega);(have h2 : q.2.size≤maxLen:=by have:=hq.2; unfold maxLen; omega);obtain ⟨m,hm⟩ : ∃ m,Tryz.prog.types.size = m+2:=⟨Tryz.prog.types.size - 2,by kernel_rfl⟩;(have hc1 : Tryz.prog.cellsOf 39 = 2:=by kernel_rfl);(have hc2 : Tryz.prog.cellsOf 9 = 1:=by kernel_rfl);(have hkt : Tryz.prog.keyType 39 = true:=by kernel_rfl);unfold keyOf valK;simp only [Tryz.underlying39];rw [if_pos (by simp [hkt,Value.formed,Tryz.underlying39,hc1]),hm];simp [Program.keyLits,Tryz.underlying39,Tryz.underlying9,Value.cells,hc1,hc2,h1,h2,litK]
end Go.Proofs.YtjbaijgdkkccbaaGreatDoor
