/- A map of rows of strings of the call's own; helpers are sorted. -/
import Derived.Test.YtjbaijgdkkccbaaGreatDoorH3
import Derived.Test.YtjbaijgdkkccbaaGreatDoorYd
import Derived.Test.YtjbaijgdkkccbaaGreatDoorBg
import Derived.Test.YtjbaijgdkkccbaaGreatDoorSq
import Derived.Test.YtjbaijgdkkccbaaGreatDoorSj
import Derived.Carry
import Derived.Test.YtjbaijgdkkccbaaGreatDoorRs
import Derived.Test.YtjbaijgdkkccbaaGreatDoorAy
import Derived.Test.YtjbaijgdkkccbaaGreatDoorAw
import Derived.Test.YtjbaijgdkkccbaaGreatDoorAo
namespace Go.Proofs.YtjbaijgdkkccbaaGreatDoor
open Go.RowKit Go.Sort

structure RowS (w : World) (B mb n : Nat) (vals : ByteArray→Value) (f : ByteArray→List ByteArray) : Prop where
 map : MapS Tryz.prog 9 w mb n (fun p=>if f p = [] then none else some (vals p))
 acc : ∀ p,Acc RStr 1 9 (fun _=>False) B w (vals p) (f p)
 nil : ∀ p,f p = []→vals p = .slice none 0 0
 sep : ∀ p q k,p≠q→(vals p).ownBlock = some k→(vals q).ownBlock≠some k
theorem RowS.start (w : World) : RowS (w.alloc (.map #[] 0)) (w.heap.size+1) w.heap.size 0 (fun _=>.slice none 0 0) (fun _=>[]) :=
 ⟨(MapS.made Tryz.prog 9 w).congr (fun _=>by simp),fun _=>Acc.nil _ _ _ _ _ _,fun _ _=>rfl,fun p q k _ h=>by simp [Value.ownBlock] at h⟩
section
variable {w w' w2 : World} {B mb n : Nat} {vals : ByteArray→Value} {f : ByteArray→List ByteArray}
theorem RowS.keep (h : RowS w B mb n vals f) (k : All w w') : RowS w' B mb n vals f :=
 ⟨h.map.keep k trivial,fun p=>(h.acc p).keepAll RStr.ok k,h.nil,h.sep⟩
theorem RowS.look (h : RowS w B mb n vals f) {t : TypeId} (ht : Tryz.prog.underlying t = some (.map 9 29)) (p : ByteArray) (hp : p.size≤1000000) :
  (Instr.lookup t (.map (some mb)) (.string p) false).run Tryz.prog w = .ok (vals p) w:=by
 have h1:=h.map.look Tryz.underlying9 ht (Tryz.zeroValue29 w) p hp;rw [h1];by_cases hf : f p = []
 ·simp [hf,h.nil p hf]
 ·simp [hf]
theorem RowS.putAt {W0 : World} {t : TypeId} (h : RowS w B mb n vals f) (ht : Tryz.prog.underlying t = some (.map 9 29)) (hmB : mb < B) {p : ByteArray} (hg : W0.grownBy w' (vals p).ownBlock) (hk : All w W0) (hn : n≤1000000) (hp : p.size≤1000000) (v' : Value) :
  ∃ w2,(Instr.mapUpdate t (.map (some mb)) (.string p) v').run Tryz.prog w' = .ok () w2∧MapS Tryz.prog 9 w2 mb (n+1) (putS (fun p=>if f p = [] then none else some (vals p)) p v')∧But mb w' w2:=by
 have h0:=h.map.keep hk trivial;have hkp : Kept (fun k=>(vals p).ownBlock≠some k) W0 w':=⟨hg.os,hg.tape,hg.output,hg.size,fun k hk hf=>hg.block k hk (fun e=>hf e.symm)⟩;have h1:=h0.keep hkp (fun e=>by have:=((h.acc p).lt _ e).1; omega);exact h1.put Tryz.underlying9 ht hn p hp v'
theorem RowS.push (h : RowS w B mb n vals f) (hmB : mb < B) {p : ByteArray} {x : ByteArray} {v' : Value} (hacc : Acc RStr 1 9 (fun _=>False) B w' v' (f p ++ [x])) (hg : w.grownBy w' (vals p).ownBlock) (hat : v'.ownBlock = (vals p).ownBlock∨v'.ownBlock = some w.heap.size)
  (hm : MapS Tryz.prog 9 w2 mb (n+1) (putS (fun p=>if f p = [] then none else some (vals p)) p v')) (hb : But mb w' w2) :
  RowS w2 B mb (n+1) (fun q=>if q = p then v' else vals q) (fun q=>if q = p then f p ++ [x] else f q):=by
 have hkp : Kept (fun k=>(vals p).ownBlock≠some k) w w':=⟨hg.os,hg.tape,hg.output,hg.size,fun k hk hf=>hg.block k hk (fun e=>hf e.symm)⟩;refine ⟨hm.congr (fun q=>?_),fun q=>?_,fun q hq=>?_,fun a b k hab ha=>?_⟩
 ·by_cases hq : q = p
  ·subst hq; simp [putS]
  ·simp [putS,hq]
 ·by_cases hq : q = p
  ·subst hq;simp only [if_true];exact hacc.keep RStr.ok hb (fun _ h=>h.elim) (fun k hk=>by have:=(hacc.lt k hk).1; omega)
  ·simp only [hq,if_false];have h1:=(h.acc q).keep RStr.ok hkp (fun _ h=>h.elim) (fun k hk e=>h.sep q p k hq hk e);exact h1.keep RStr.ok hb (fun _ h=>h.elim) (fun k hk=>by have:=(h1.lt k hk).1; omega)
 ·by_cases hqp : q = p
  ·simp [hqp] at hq
  ·simp only [hqp,if_false] at hq ⊢;exact h.nil q hq
 ·by_cases hap : a = p
  ·subst hap;(have hbp : ¬ b = a:=fun e=>hab e.symm);simp only [if_true] at ha;simp only [hbp,if_false];rcases hat with e | e
   ·rw [e] at ha; exact h.sep a b k hab ha
   ·rw [e] at ha
    cases ha
    intro hk;have:=((h.acc b).lt _ hk).2;omega
  ·simp only [hap,if_false] at ha;by_cases hbp : b = p
   ·subst hbp;simp only [if_true];intro hk;rcases hat with e | e
    ·rw [e] at hk; exact h.sep a b k hab ha hk
    ·rw [e] at hk
     cases hk
     have:=((h.acc a).lt _ ha).2;omega
   ·simp only [hbp,if_false];exact h.sep a b k hab ha
end

theorem grown_cell {W0 w7 : World} {row : Option Nat} {p : Addr} {v : Value} (hg : W0.grownBy w7 row) (hc : W0.cell? p = some v) (hne : row≠some p.block) : w7.cell? p = some v:=by
 have hk : Kept (fun k=>row≠some k) W0 w7:=⟨hg.os,hg.tape,hg.output,hg.size,fun k hk hf=>hg.block k hk (fun e=>hf e.symm)⟩;exact hk.cell hc hne

instance : Inhabited Help2:=⟨⟨⟨#[]⟩,0⟩⟩
def cfH (a b : Help2) : Int:=Lib.compareBytes a.by_.data.toList b.by_.data.toList
theorem isCmpH : IsCmp cfH where
 zero x y h:=(cmp_zero _ _).2 ((cmp_zero _ _).1 h).symm
 refl x:=(cmp_zero _ _).2 rfl
 neg x y h:=by have:=cmp_swap x.by_.data.toList y.by_.data.toList; simp only [cfH] at *; omega
 lt x y z h1 h2:=by
  simp only [cfH] at *;rcases Int.lt_or_le (Lib.compareBytes y.by_.data.toList z.by_.data.toList) 0 with h | h
  ·exact cmp_trans h1 h
  ·rw [← (cmp_zero _ _).1 (by omega : Lib.compareBytes y.by_.data.toList z.by_.data.toList = 0)]; exact h1
 lt2 x y z h1 h2:=by
  simp only [cfH] at *;rcases Int.lt_or_le (Lib.compareBytes x.by_.data.toList y.by_.data.toList) 0 with h | h
  ·exact cmp_trans h h2
  ·rw [(cmp_zero _ _).1 (by omega : Lib.compareBytes x.by_.data.toList y.by_.data.toList = 0)]; exact h2
 eq x y z h1 h2:=by
  simp only [cfH] at *;rw [(cmp_zero _ _).1 h1]; exact h2
theorem perm_rises {hs qs : List Help2} (hp : qs.Perm hs) (hn : (hs.map (·.by_)).Nodup) (hs2 : qs.Pairwise fun x y=>cfH x y≤0) : qs.Pairwise fun x y=>Op.bytesLess x.by_.toList y.by_.toList = true:=by
 have hn2 : (qs.map (·.by_)).Nodup:=(hp.map (·.by_)).nodup_iff.2 hn;rw [List.Nodup,List.pairwise_map] at hn2;refine (hs2.and hn2).imp ?_;rintro x y ⟨h1,h2⟩;rw [tl_data,tl_data,← cmp_neg];(have h3 : cfH x y≠0:=fun e=>h2 (Go.WideShapes.bytes_inj ((cmp_zero _ _).1 e)));unfold cfH at h1 h3;omega
theorem sortHelp_any {T : TypeId} {F : Nat→Prop} {B : Nat} (cf : Help2→Help2→Int) (hO : IsCmp cf) (g : FuncId) (caps : Array Value) (eg : ∀ args w,(callFunc g args).run Tryz.prog w = .ok (.enter g args) w) (v : Value) (xs : List Help2) (w : World) (h : Acc RHelp 2 T F B w v xs) (hl : xs.length≤1000000) (hcmp : ∀ g0,v.ownBlock = some g0→CmpLays Tryz.prog g caps encHelp 2 cf g0 0 xs.length w) :
  Calls Tryz.prog 76 #[v,.func (.func g) #[] caps] w fun e w'=>e = .returned (.tuple #[])∧∃ qs : List Help2,qs.Perm xs∧qs.Pairwise (fun x y=>cf x y≤0)∧Acc RHelp 2 T F B w' v qs∧w.grownBy w' v.ownBlock:=by
 rcases h.sortable flatHelp with ⟨rfl,rfl⟩ | ⟨g0,cap,rfl,hb,hlt,hH,hS,hafter⟩
 ·refine (Tryz.slices_SortFunc_help_none none 0 _ w).mono ?_;rintro e w' ⟨rfl,rfl⟩;exact ⟨rfl,[],List.Perm.refl _,List.Pairwise.nil,h,⟨rfl,rfl,rfl,Nat.le_refl _,fun _ _ _=>rfl⟩⟩
 ·have hC:=Tryz.slices_SortFunc_help encHelp (Flat.len flatHelp) (Flat.one flatHelp) cf hO.swo g caps g0 0 cap xs.toArray w eg (by simpa using hcmp g0 rfl) hH hlt (by simp; omega);simp only [List.size_toArray] at hC;refine hC.mono ?_;rintro e w' ⟨rfl,d',n,os,hp,hs,rfl⟩;obtain ⟨hd,hperm⟩:=perm_list hp;obtain ⟨ha,hg⟩:=hafter d' n os hd (fun x hx=>hS x (hperm.mem_iff.1 hx));exact ⟨rfl,d'.toList,hperm,sorted_list hO hs hd,ha,hg⟩
theorem helpOrder_grow (x y : Help2) (w : World) :
  Calls Tryz.prog 77 #[.agg #[.string x.by_,.int .i64 x.papers],.agg #[.string y.by_,.int .i64 y.papers]] w fun e w'=>e = .returned (.int .i64 (cfH x y))∧∃ q os,w' = Go.Sort.grow (w.drewN q) os:=by
 (go_enter Tryz.func77,Tryz.ntmps77);(go_wp2_with fail);refine (Tryz.strings_Compare _ _ _).mono ?_;rintro e w' ⟨rfl,rfl⟩;(go_wp2_with fail);go_ret;exact ⟨rfl,0,_,by rw [Go.Sort.alloc_eq_grow,Go.Sort.alloc_eq_grow,Go.Sort.grow_grow]; rfl⟩
end Go.Proofs.YtjbaijgdkkccbaaGreatDoor

/- HelpersOf. -/
namespace Go.Proofs.YtjbaijgdkkccbaaGreatDoor
open Go.RowKit Go.Sort

theorem lastO_paper {ts : List Raw} {p : K2} {tm : Int} {z : Raw} (h : lastO ts p tm true = some z) : z.1.paper = p.1:=by
 have h1:=List.mem_reverse.1 (List.mem_of_find?_eq_some h);have h2:=(List.mem_filter.1 h1).2;rw [decide_eq_true_iff] at h2;rw [← h2]
theorem papL_step {zs : List Raw} (o : Option Raw) (q : ByteArray) : papL (zs ++ o.toList) q = match o with | none=>papL zs q | some z=>papZ q (papL zs q) z:=by
 cases o with
 | none=>simp
 | some z=>exact papL_app zs z q
theorem helps_nodup {zs : List Raw} {ks : List ByteArray} (h : ks.Nodup) : ((helpsOf zs ks).map (·.by_)).Nodup:=by
 (have : (helpsOf zs ks).map (·.by_) = ks:=by rw [helpsOf,List.map_map]; exact List.map_id _);rw [this]; exact h
theorem helps_is {zs : List Raw} {ks : List ByteArray} {qs : List Help2} (hn : ks.Nodup) (hk : ∀ q,q ∈ ks ↔ papL zs q≠[]) (hp : qs.Perm (helpsOf zs ks)) (hs : qs.Pairwise fun x y=>cfH x y≤0) : HelpIs zs qs:=by
 refine ⟨perm_rises hp (helps_nodup hn) hs,fun h hh=>?_,fun q hq=>?_⟩
 ·obtain ⟨q,hq,rfl⟩:=List.mem_map.1 (hp.mem_iff.1 hh);exact ⟨(hk q).1 hq,rfl⟩
 ·exact ⟨⟨q,_⟩,hp.mem_iff.2 (List.mem_map.2 ⟨q,(hk q).2 hq,rfl⟩),rfl⟩
def HelpsR (zs : List Raw) (e : Ending) (w' : World) : Prop:=∃ (p : Option Addr) (c : Nat) (hs : List Help2),e = .returned (.slice p hs.length c)∧HelpIs zs hs∧hs.length≤zs.length∧Sl RHelp 2 (fun _=>True) w' p hs.length hs
set_option maxRecDepth 100000 in
set_option maxHeartbeats 12800000 in
theorem helpersOf_any (a0 : Option Addr) (l0 c0 : Nat) (a1 : Option Addr) (l1 c1 : Nat) (a2 : Option Addr) (l2 c2 : Nat) (a3 : Option Addr) (l3 c3 : Nat) (a4 : Option Addr) (l4 c4 : Nat) (s : Set7) (al : Option Addr) (ll cl : Nat) (ts : List Raw) (tm : Int) (w : World) (his : SetIs (fun _=>True) w a0 l0 a1 l1 a2 l2 a3 l3 a4 l4 s) (hst : Sl RRaw 7 (fun _=>True) w al ll ts) (hsm : ∀ z ∈ ts,RevSmall z.1) (hl : ll≤1000000) (hl2 : l2≤1000) :
  Calls Tryz.prog 27 #[.agg #[.slice a0 l0 c0,.slice a1 l1 c1,.slice a2 l2 c2,.slice a3 l3 c3,.slice a4 l4 c4,.int .i64 s.due,.int .i64 s.reply],.slice al ll cl,.int .i64 tm] w fun e w'=>HelpsR (doneL ts tm s.pairs) e w'∧All w w':=by
 have hk1 : All w (w.alloc (.cells #[.slice a0 l0 c0,.slice a1 l1 c1,.slice a2 l2 c2,.slice a3 l3 c3,.slice a4 l4 c4,.int .i64 s.due,.int .i64 s.reply] 31)):=Kept.alloc _ _ _;have hb:=heap_at w (.cells #[.slice a0 l0 c0,.slice a1 l1 c1,.slice a2 l2 c2,.slice a3 l3 c3,.slice a4 l4 c4,.int .i64 s.due,.int .i64 s.reply] 31) _ rfl;obtain ⟨bb,hbb⟩ : ∃ b,b = w.heap.size:=⟨_,rfl⟩;have HBB:=Lib.hid hbb;rw [← hbb] at hb;have HVA:=Lib.hid (fun (wx : World) (k : All (w.alloc (.cells #[.slice a0 l0 c0,.slice a1 l1 c1,.slice a2 l2 c2,.slice a3 l3 c3,.slice a4 l4 c4,.int .i64 s.due,.int .i64 s.reply] 31)) wx) (p : K2)=>valid_any al ll cl ts p tm wx (hst.keep RRaw.ok (hk1.trans k)) hl);have HPS:=Lib.hid (fun (wx : World) (k : All (w.alloc (.cells #[.slice a0 l0 c0,.slice a1 l1 c1,.slice a2 l2 c2,.slice a3 l3 c3,.slice a4 l4 c4,.int .i64 s.due,.int .i64 s.reply] 31)) wx)=>(his.keep (hk1.trans k)).pairs);have HPL:=Lib.hid his.pairs.len;have HSM:=Lib.hid (fun (p : K2) (z : Raw) (h : lastO ts p tm true = some z)=>hsm z (lastO_mem h));have HK1:=Lib.hid hk1;clear hbb his hst hsm hk1;(go_enter Tryz.func27,Tryz.ntmps27);(go_upto_region 1 with fail);simp only [← HBB.out];generalize w.alloc (.cells #[.slice a0 l0 c0,.slice a1 l1 c1,.slice a2 l2 c2,.slice a3 l3 c3,.slice a4 l4 c4,.int .i64 s.due,.int .i64 s.reply] 31) = w1 at *;have hmm:=@run_makeMap Tryz.prog;have hk2 : All w1 (w1.alloc (.map #[] 0)):=Kept.alloc _ _ _;have hsc0:=RowS.start w1;obtain ⟨mb,hmb⟩ : ∃ mb,mb = w1.heap.size:=⟨_,rfl⟩;obtain ⟨B,hB⟩ : ∃ B,B = w1.heap.size+1:=⟨_,rfl⟩;have HB:=Lib.hid hB;have HMB:=Lib.hid hmb;(have hmB : mb < B:=by omega);(have hB1 : B≤(w1.alloc (.map #[] 0)).heap.size:=by rw [hB]; simp);(have hB2 : (w1.alloc (.map #[] 0)).heap.size = B:=by rw [hB]; simp);rw [← hB,← hmb] at hsc0;(have hw1m : w1.heap.size≤mb:=by omega);have e2:=cell_at (i:=2) (hk2.heap hb trivial) rfl;clear hB hmb;(go_upto_region 2 with fail);simp only [← HMB.out];generalize w1.alloc (.map #[] 0) = w2 at *;have HAB:=Lib.hid (fun (wx : World) (k : But mb w2 wx)=>all_butH hk2 k hw1m);have HZS:=Lib.hid (fun (k : Nat)=>(show ((doneL ts tm (s.pairs.take k)).length≤k) from Nat.le_trans (doneL_len _ _ _) (List.length_take_le _ _)));clear hk2;(go_wp2_with fail);go_loopw [19] (fun i wr=>∃ k : Nat,k≤l2∧i = .int .i64 k∧∃ n vals,n≤k∧RowS wr B mb n vals (papL (doneL ts tm (s.pairs.take k)))∧But mb w2 wr) (fun i _=>l2 - (intOf i).toNat)
 case atStart=>exact ⟨0,Nat.zero_le _,rfl,0,_,Nat.zero_le _,hsc0,Kept.refl _ _⟩
 case round =>
  clear hsc0 hmm e2 hb;obtain ⟨k,hk,rfl,n,vals,hnk,hsc,hwr⟩:=hrel;obtain ⟨wo,rfl⟩ : ∃ wo : World,wo = wr:=⟨_,rfl⟩;have hall:=HAB.out _ hwr;by_cases hlt : k < l2
  ·obtain ⟨b,off,y,ha,-,r0,r1,hyk,-,htk⟩:=(HPS.out _ hall).atPair hlt;subst ha;have HDS:=Lib.hid (doneL_snoc (ts:=ts) (tm:=tm) htk);have HZK:=Lib.hid (HZS.out k);have HSY:=Lib.hid (HSM.out (y.paper,y.person));obtain ⟨zs,hzs⟩ : ∃ z,z = doneL ts tm (s.pairs.take k):=⟨_,rfl⟩;rw [← hzs] at HDS HZK hsc;obtain ⟨zt,hzt⟩ : ∃ z,z = doneL ts tm (s.pairs.take (k+1)):=⟨_,rfl⟩;have HZT:=Lib.hid hzt;rw [← hzt] at HDS;obtain ⟨lo,hlo⟩ : ∃ z,z = lastO ts (y.paper,y.person) tm true:=⟨_,rfl⟩;have HLO:=Lib.hid hlo;have HVY:=Lib.hid (fun (wx : World) (k : All w1 wx)=>HVA.out wx k (y.paper,y.person));rw [← hlo] at HDS HVY HSY;have hka : All wo (wo.alloc (.cells #[.string y.paper,.string y.person] 39)):=Kept.alloc _ _ _;have HROW:=Lib.hid (fun (q : ByteArray) (k : Nat) (h : (vals q).ownBlock = some k)=>((hsc.acc q).lt k h));have hpblk:=heap_at wo (.cells #[.string y.paper,.string y.person] 39) _ rfl;obtain ⟨pb,hpb⟩ : ∃ q,q = wo.heap.size:=⟨_,rfl⟩;have HPB:=Lib.hid hpb;rw [← hpb] at hpblk;clear htk hyk hzs hzt hlo hpb;(go_upto_region 5 with fail);simp only [← HPB.out];generalize wo.alloc (.cells #[.string y.paper,.string y.person] 39) = wa at *;have hsca:=hsc.keep hka;have hwa:=hwr.trans (Kept.all hka);have halla:=hall.trans hka;have p0:=cell_at (i:=0) hpblk rfl;have p1:=cell_at (i:=1) hpblk rfl;have hka0:=hka;clear hsc hwr hall hka r0 r1;(go_wp2_with fail);refine (HVY.out _ halla).mono ?_;rintro e w5 ⟨rfl,hw5⟩;clear p0 p1;obtain ⟨⟨x,aa,ac⟩,hx⟩ : ∃ z,z = lo.getD raw0:=⟨_,rfl⟩;rw [← hx];rw [show (encRaw (x,aa,ac)).toArray = revC x aa ac from rfl];have HX:=Lib.hid hx;have hkb : All wa (w5.alloc (.cells (revC x aa ac) 73)):=hw5.then_alloc _;have hrblk:=heap_at w5 (.cells (revC x aa ac) 73) _ rfl;obtain ⟨rb,hrb⟩ : ∃ q,q = w5.heap.size:=⟨_,rfl⟩;have HRB:=Lib.hid hrb;rw [← hrb] at hrblk;(have hrbz : wo.heap.size≤rb:=by have:=halla.size; have:=hka0.size; have:=hw5.size; omega);obtain ⟨ok,hok⟩ : ∃ z,z = lo.isSome:=⟨_,rfl⟩;have HOK:=Lib.hid hok;rw [← hok];clear hrb hx hok;(go_upto_region 6 with fail);simp only [← HRB.out];generalize w5.alloc (.cells (revC x aa ac) 73) = wb at *;have hscb:=hsca.keep hkb;have hwb:=hwa.trans (Kept.all hkb);have hpb2:=hkb.heap hpblk trivial;have p0:=cell_at (i:=0) hpb2 rfl;have u4:=cell_at (i:=4) hrblk rfl;clear hsca hwa hkb hpb2 hpblk hrblk hw5 halla
   cases ok with
   | false =>
    have HE:=Lib.hid (show zt = zs from by
     have h0 : lo = none:=by
      cases lo with
      | none=>rfl
      | some z=>exact nomatch HOK.out
     rw [HDS.out,h0]; simp)
    clear p0 u4;(go_wp2_with fail);go_roundw
    case rel=>exact ⟨k+1,by omega,by go_num,n,vals,by omega,by rw [← HZT.out,HE.out]; exact hscb,hwb⟩
    case measure=>simp [intOf]; omega
   | true =>
    obtain ⟨q,hq⟩ : ∃ q,q = x.by_:=⟨_,rfl⟩;have HQ:=Lib.hid hq;obtain ⟨z,hz⟩ : ∃ z,lo = some z:=by
     cases lo with
     | none=>exact nomatch HOK.out
     | some z=>exact ⟨z,rfl⟩
    (have hzx : z = (x,aa,ac):=by have:=HX.out; rw [hz] at this; exact this.symm);have HPZ:=Lib.hid (fun (p : ByteArray)=>(show papL zt p = papZ p (papL zs p) z from by rw [HDS.out,papL_step,hz]));have HZP:=Lib.hid (show z.1.paper = y.paper from lastO_paper (p:=(y.paper,y.person)) (by rw [← HLO.out]; exact hz));have HZB:=Lib.hid (show z.1.by_ = q from by rw [hzx,hq]);(have hqs : q.size≤1000000:=by rw [← HZB.out]; exact (HSY.out z hz).2.2.1);have hyp : y.paper.size≤1000000:=y.h1;(have u4' : wb.cell? ⟨rb,4,none⟩ = some (.string q):=by rw [hq]; exact u4);clear u4 hq hz hzx;by_cases hbz : q.size = 0
    case pos =>
     have hd2:=strs_emp hbz;(have hd3 : q.toList.isEmpty = true:=by rw [toList_nil hbz]; rfl);have HE:=Lib.hid (show papL zt = papL zs from funext fun p=>by rw [HPZ.out,papZ_none (by rw [HZB.out]; exact hbz)]);clear hbz p0;(go_wp2_with fail);go_roundw
     case rel=>exact ⟨k+1,by omega,by go_num,n,vals,by omega,by rw [← HZT.out,HE.out]; exact hscb,hwb⟩
     case measure=>simp [intOf]; omega
    case neg =>
     have hd2:=strs_nemp hbz;have hd3 : q.toList.isEmpty = false:=by
      have:=toList_ne hbz
      cases hc : q.toList with
      | nil=>exact absurd hc this
      | cons _ _=>rfl
     have HPQ:=Lib.hid (show papL zt q = (if memB y.paper (papL zs q) = true then papL zs q else papL zs q ++ [y.paper]) from by rw [HPZ.out,← HZP.out]; exact papZ_same HZB.out hbz);have HPO:=Lib.hid (fun (p : ByteArray) (h : p≠q)=>(show papL zt p = papL zs p from by rw [HPZ.out,papZ_other (by rw [HZB.out]; exact fun e=>h e.symm)]));have hlk:=hscb.look Tryz.underlying123 q hqs;obtain ⟨vp,hvp⟩ : ∃ vp,vp = vals q:=⟨_,rfl⟩;have HVP:=Lib.hid hvp;have haccp:=hscb.acc q;(have hfl : (papL zs q).length≤1000:=by have:=papL_len zs q; have:=HZK.out; omega);rw [← hvp] at hlk haccp;obtain ⟨va,vc,hvf,hsl⟩:=haccp.sl RStr.ok (by decide) (G:=fun _=>True) (fun _ h=>h.elim) (fun _ _=>trivial);have hbz2:=Lib.hid hbz;clear hbz hvp;subst hvf;obtain ⟨fl,hflq⟩ : ∃ z,z = papL zs q:=⟨_,rfl⟩;rw [← hflq] at hlk haccp hsl hfl HVP HPQ;have HFL:=Lib.hid hflq;have HCN:=Lib.hid (contains_any va fl.length vc fl y.paper wb hsl (by omega));obtain ⟨mt,hmt⟩ : ∃ z,z = memB y.paper fl:=⟨_,rfl⟩;rw [← hmt] at HCN HPQ;clear hflq hmt hsl;(go_wp2_with fail);refine (HCN.out).mono ?_;rintro e w' ⟨rfl,rfl⟩
     cases mt with
     | true =>
      have HE:=Lib.hid (show papL zt = papL zs from funext fun p=>by
       by_cases hp : p = q
       ·rw [hp,HPQ.out,if_pos rfl,HFL.out]
       ·exact HPO.out p hp)
      clear p0 hlk haccp;(go_wp2_with fail);go_roundw
      case rel=>exact ⟨k+1,by omega,by go_num,n,vals,by omega,by rw [← HZT.out,HE.out]; exact hscb,hwb⟩
      case measure=>simp [intOf]; omega
     | false =>
      (go_upto_region 7 with fail);have l1:=(hscb.keep (Kept.drew (fun _=>True) wb)).look Tryz.underlying123 q hqs;have l2':=(hscb.keep ((by repeat (first | exact Kept.refl _ _ | refine Kept.then_drew ?_ | refine Kept.then_drewN ?_ _ | refine Kept.then_alloc ?_ _)) : All wb (wb.alloc (.cells #[.string y.paper] 9)).drew)).look Tryz.underlying123 q hqs;(have hBa : B≤wb.heap.size:=by have:=hwb.size; omega);have hka : All wb (wb.alloc (.cells #[.string y.paper] 9)).drew:=(by repeat (first | exact Kept.refl _ _ | refine Kept.then_drew ?_ | refine Kept.then_drewN ?_ _ | refine Kept.then_alloc ?_ _));have e0':=hka.cell p0 trivial;have e2':=hka.cell u4' trivial;rw [← HVP.out] at l1 l2'
      go_region_law (first
       | (refine step_append1 RStr.ok _ (by rfl) _ _ 29 (by rfl) B 9 (.string ⟨#[]⟩) 1 16 Tryz.underlying29 (by kernel_rfl) rfl (by decide) (fun _=>False) (Value.slice va fl.length vc) fl (by rfl) (haccp.keepAll RStr.ok (by repeat (first | exact Kept.refl _ _ | refine Kept.then_drew ?_ | refine Kept.then_drewN ?_ _ | refine Kept.then_alloc ?_ _))) ⟨wb.heap.size,0,none⟩ 1 [.string y.paper] (by rfl) rfl (World.news_of_block (cs:=#[.string y.paper]) (t:=9) (fr:=(0,0)) (heap_alloc_new wb _)) (by simp [Value.oneCell']) y.paper ⟨rfl,hyp⟩ (by omega) (by decide) (by simp; omega) ?_; intro p7 c7 w7 hacc7 hgrow hat7; rw [HVP.out] at hgrow hat7; have e07:=grown_cell hgrow e2' (fun e=>by have:=HROW.out q _ e; dsimp only at this; omega); obtain ⟨w8,hput,hm8,hb8⟩:=hscb.putAt Tryz.underlying123 hmB hgrow (by repeat (first | exact Kept.refl _ _ | refine Kept.then_drew ?_ | refine Kept.then_drewN ?_ _ | refine Kept.then_alloc ?_ _)) (by omega) hqs (Value.slice p7 (fl.length+1) c7)))
      all_goals
       have hpush:=Lib.hid ((hscb.keep hka).push hmB (show Acc RStr 1 9 (fun _=>False) B w7 (.slice p7 (fl.length+1) c7) (papL zs q ++ [y.paper]) from by rw [← HFL.out]; exact hacc7) hgrow hat7 hm8 hb8);have hk8 : But mb w2 w8:=((hwb.trans (Kept.all hka)).grown hgrow (fun k hk=>Or.inl (by have:=(HROW.out q k hk).1; omega))).trans hb8;have hfe:=Lib.hid (show (fun p=>if p = q then papL zs q ++ [y.paper] else papL zs p) = papL zt from funext fun p=>by
        by_cases hp : p = q
        ·rw [if_pos hp,hp,HPQ.out,if_neg (by simp),HFL.out]
        ·rw [if_neg hp,HPO.out p hp])
       clear hput e07 hgrow hat7 hm8 hb8 hacc7 l1 l2' hscb haccp hlk e0' e2' hka;(go_wp2_with fail);go_roundw
       case rel=>exact ⟨k+1,by omega,by go_num,n+1,_,by omega,by rw [← HZT.out,← hfe.out]; exact hpush.out,hk8⟩
       case measure=>simp [intOf]; omega
  ·(have hd : decide ((k : Int) < (l2 : Int)) = false:=by simp; omega);have HE3:=Lib.hid (show s.pairs.take k = s.pairs from List.take_of_length_le (by have:=HPL.out; omega));rw [HE3.out] at hsc;have HSZ:=Lib.hid (fun (q : ByteArray) (h : papL (doneL ts tm s.pairs) q≠[])=>(show q.size≤1000000 from by
    obtain ⟨z,hz,rfl⟩:=papL_by h;obtain ⟨p,-,hp⟩:=List.mem_filterMap.1 hz;exact (HSM.out _ z hp).2.2.1))
   have HZL:=Lib.hid (show (doneL ts tm s.pairs).length≤l2 from by have:=doneL_len ts tm s.pairs; have:=HPL.out; omega);obtain ⟨zs,hzs⟩ : ∃ z,z = doneL ts tm s.pairs:=⟨_,rfl⟩;have HZS9:=Lib.hid hzs;rw [← hzs] at hsc HSZ HZL;obtain ⟨w3,cnt,hrange,hrg,hk2,hsz2⟩:=hsc.map.range Tryz.underlying9 Tryz.underlying123;have HVF:=Lib.hid (fun (p : ByteArray)=>(hsc.acc p).form);have hlt1:=hsc.map.lt;have hall3:=Lib.hid (hall.trans hk2);obtain ⟨r,hr⟩ : ∃ r,r = wo.heap.size:=⟨_,rfl⟩;(have hr3 : r < w3.heap.size:=by omega);(have hm3 : mb < w3.heap.size:=by omega);(have hr1 : w1.heap.size≤r:=by rw [hr]; exact hall.size);rw [← hr] at hrange hrg;have HLE:=Lib.hid hl2;clear hsc hwr hk2 hr hsz2 hzs hall;(go_wp2_with fail);go_loopw [12] (fun o wr=>∃ left cnt ks,RangeS Tryz.prog 9 wr mb r n (fun p=>if papL zs p = [] then none else some (vals p)) left cnt∧ks.Nodup∧(∀ q,q ∈ ks ↔ papL zs q≠[]∧left q = false)∧Acc RHelp 2 62 (fun _=>False) w3.heap.size wr o (helpsOf zs ks)∧But r w3 wr) (fun _ wr=>wr.rangeLeft mb r)
   case atStart =>
    refine ⟨_,cnt,[],hrg,List.nodup_nil,fun q=>?_,Acc.nil _ _ _ _ _ _,Kept.refl _ _⟩;by_cases hp : papL zs q = [] <;> simp [hp]
   case round =>
    clear hrange hrg;obtain ⟨left,cn,ks,hrg,hnd,hks,hacc,hwr⟩:=hrel;obtain ⟨wq,rfl⟩ : ∃ wq : World,wq = wr:=⟨_,rfl⟩;have hne:=hrg.ne;have HND:=Lib.hid hnd;have HKS:=Lib.hid hks;have hkl:=keys_len hnd (fun q hq=>((hks q).1 hq).1);(have hkl2 : (helpsOf zs ks).length≤1000:=by rw [helpsOf,List.length_map]; have:=HZL.out; have:=HLE.out; omega);clear hnd hks;obtain ⟨os,hos⟩ : ∃ z,z = helpsOf zs ks:=⟨_,rfl⟩;have HOS:=Lib.hid hos;rw [← hos] at hacc hkl2;clear hos;rcases hrg.next Tryz.underlying9 0 with ⟨hl0,hrun⟩ | ⟨p,v,w4,cn',hlp,hms,hrun,hrg3,hcl,hb3,hsz3,hen⟩
    ·have HKE:=Lib.hid (fun (q : ByteArray)=>(show q ∈ ks ↔ papL zs q≠[] from by rw [HKS.out]; exact ⟨fun h=>h.1,fun h=>⟨h,hl0 q⟩⟩));have hallq:=Lib.hid (all_butH hall3.out hwr hr1);have HLT:=Lib.hid hacc.lt;obtain ⟨oa,oc,rfl,-⟩:=hacc.form;have eg : ∀ args w,(callFunc 77 args).run Tryz.prog w = .ok (.enter 77 args) w:=enters_of Tryz.func77 (by kernel_rfl) rfl;have HSO:=Lib.hid (sortHelp_any cfH isCmpH 77 #[] eg _ os wq hacc (by omega) (fun g0 _ m os' dk _ x y=>helpOrder_grow x y _));clear hl0 hrg hwr hacc eg;(go_wp2_with fail);refine HSO.out.mono ?_;rintro e w6 ⟨rfl,qs,hperm,hsort,hac6,hg6⟩;have HIS:=Lib.hid (helps_is HND.out HKE.out (by rw [← HOS.out]; exact hperm) hsort);have hlen : qs.length = os.length:=hperm.length_eq;obtain ⟨a6,c6,hv6,hs6⟩:=hac6.sl RHelp.ok (by decide) (G:=fun _=>True) (fun _ h=>h.elim) (fun _ _=>trivial);have HS6:=Lib.hid hs6;rw [hlen] at hv6;have hfin:=Lib.hid (HK1.out.trans (hallq.out.grown hg6 (fun j hj=>Or.inl (by have:=(HLT.out j hj).1; have:=hall3.out.size; omega))));have HQL:=Lib.hid (show qs.length≤zs.length from by rw [hlen,HOS.out,helpsOf,List.length_map]; exact keys_len HND.out (fun q hq=>(HKE.out q).1 hq));injection hv6 with h1 h2 h3;subst h1 h3;have HLN:=Lib.hid hlen;clear hperm hsort hac6 hg6 hs6 hlen h2;(go_wp2_with fail);go_ret;exact ⟨by rw [← HZS9.out]; exact ⟨oa,oc,qs,by rw [HLN.out]; rfl,HIS.out,HQL.out,HS6.out⟩,hfin.out⟩
    ·(have hfp : papL zs p≠[]:=fun e=>by rw [if_pos e] at hms; cases hms);(have hv : v = vals p:=by rw [if_neg hfp] at hms; injection hms with hms; exact hms.symm);obtain ⟨va,vc,hvf,-⟩:=HVF.out p;rw [hvf] at hv;subst hv;have hps:=HSZ.out p hfp;have HC:=Lib.hid (And.intro hcl hrg.left_eq);have HMM:=Lib.hid (fun (q : ByteArray)=>(show q ∈ ks ++ [p] ↔ papL zs q≠[]∧(left q && !decide (q = p)) = false from by
      rw [List.mem_append,HKS.out,List.mem_singleton];by_cases hq : q = p
      ·subst hq; simp [hfp]
      ·simp [hq]))
     have HNN:=Lib.hid (show (ks ++ [p]).Nodup from by
      rw [List.nodup_append];refine ⟨HND.out,by simp,fun a ha b hb=>?_⟩;rw [List.mem_singleton] at hb;subst hb;rintro rfl;have:=((HKS.out a).1 ha).2;rw [hlp] at this;exact nomatch this)
     have HOO:=Lib.hid (show helpsOf zs (ks ++ [p]) = os ++ [⟨p,((papL zs p).length : Int)⟩] from by rw [HOS.out,helpsOf,helpsOf,List.map_append]; rfl);obtain ⟨pl,hpl⟩ : ∃ q,q = (papL zs p).length:=⟨_,rfl⟩;rw [← hpl] at hrun hen HOO;(have hpl2 : pl≤1000:=by rw [hpl]; have:=papL_len zs p; have:=HZL.out; have:=HLE.out; omega);have hacc3:=hacc.keep RHelp.ok hb3 (fun _ h=>h.elim) (fun k hk=>by have:=(hacc.lt k hk).1; omega);have hw4 : But r w3 w4:=hwr.trans hb3;obtain ⟨oa,oc,rfl,hoc⟩:=hacc3.form;(have hrow : ∀ k,(Value.slice oa os.length oc).ownBlock = some k→k≠mb∧k≠r:=fun k hk=>by have:=(hacc.lt k hk).1; omega);have hsz4:=hw4.size;clear hcl hrg hms hfp hpl hwr hb3 hacc hvf hsz3;(go_wp2_with (at_builtin; refine wp_append1 RHelp.ok _ rfl _ _ 55 rfl w3.heap.size 62 (.agg #[.string ⟨#[]⟩,.int .i64 0]) 2 24 Tryz.underlying55 (by kernel_rfl) rfl (by decide) (fun _=>False) _ os rfl (hacc3.keepAll RHelp.ok (Kept.alloc _ _ _)) ⟨_,0,none⟩ 1 [.string p,.int .i64 (pl : Int)] rfl rfl (World.news_of_block (cs:=#[.string p,.int .i64 (pl : Int)]) (heap_at _ _ _ (by simp))) (by simp [Value.oneCell']) ⟨p,(pl : Int)⟩ ⟨rfl,hps⟩ (by omega) (by decide) (Nat.le_trans hsz4 (by simp)) ?_));intro p9 c9 w9 hacc9 hg9 _;have hk49 : Kept (fun k=>(Value.slice oa os.length oc).ownBlock≠some k) w4 w9:=((Kept.alloc _ w4 _).mono (fun _ _=>trivial)).trans ⟨hg9.os,hg9.tape,hg9.output,hg9.size,fun k hk hf=>hg9.block k hk (fun e=>hf e.symm)⟩;have hrg9:=hrg3.keep hk49 (fun e=>(hrow mb e).1 rfl) (fun e=>(hrow r e).2 rfl);have hw9 : But r w3 w9:=(hw4.then_alloc _).grown hg9 (fun j hj=>Or.inl (by have:=(hacc3.lt j hj).1; omega));have hfin:=Lib.hid hacc9;clear hacc9 hg9 hacc3 hrg3 hk49 hw4 hrun hen;(go_wp2_with fail);go_roundw
     case rel=>exact ⟨_,cn',ks ++ [p],hrg9,HNN.out,HMM.out,by rw [HOO.out]; exact hfin.out,hw9⟩
     case measure=>rw [hrg9.left_eq,HC.out.2]; exact HC.out.1
end Go.Proofs.YtjbaijgdkkccbaaGreatDoor

/- Wrong, WrongOf; Equal of helpers, of numbers. -/
namespace Go.Proofs.YtjbaijgdkkccbaaGreatDoor
open Go.RowKit

set_option maxHeartbeats 800000 in
theorem equalHelp_same (a1 : Option Addr) (l1 c1 : Nat) (a2 : Option Addr) (l2 c2 : Nat) (cs : List Help2) (w : World) (h1 : Sl RHelp 2 (fun _=>True) w a1 l1 cs) (h2 : Sl RHelp 2 (fun _=>True) w a2 l2 cs) (hl : l1≤1000000) :
  Calls Tryz.prog 26 #[.slice a1 l1 c1,.slice a2 l2 c2] w fun e w'=>e = .returned (.bool true)∧All w w':=by
 have e1:=h1.len;have e2:=h2.len;(have e3 : l2 = l1:=by omega);subst e3;clear e1 e2;(go_enter Tryz.func26,Tryz.ntmps26);(go_wp2_with fail);go_loopw [13] (fun i wr=>∃ k : Nat,k≤l2∧i = .int .i64 k∧All w wr) (fun i _=>l2 - (intOf i).toNat)
 case atStart=>exact ⟨0,Nat.zero_le _,rfl,Kept.refl _ _⟩
 case round =>
  obtain ⟨k,hk,rfl,hall⟩:=hrel;by_cases hlt : k < l2
  ·obtain ⟨b1,o1,y1,ha1,-,p0,p1,-,hy1,-⟩:=(h1.keep RHelp.ok hall).atHelp hlt;obtain ⟨b2,o2,y2,ha2,-,q0,q1,-,hy2,-⟩:=(h2.keep RHelp.ok hall).atHelp hlt;(have hy : y2 = y1:=by rw [hy1] at hy2; injection hy2 with hy2; exact hy2.symm);subst hy;subst ha1;subst ha2;clear h1 h2 hy1 hy2;go_wp2_with fail
   go_quiet (fail)
   (go_wp2_with fail);go_roundw
   case rel=>exact ⟨k+1,by omega,by go_num,hall.then_drewN _⟩
   case measure=>simp [intOf]; omega
  ·(have hd : decide ((k : Int) < (l2 : Int)) = false:=by simp; omega);(go_wp2_with fail);go_ret;exact ⟨rfl,hall⟩
set_option maxHeartbeats 800000 in
theorem equalInt_same (a1 : Option Addr) (l1 c1 : Nat) (a2 : Option Addr) (l2 c2 : Nat) (cs : List Int) (w : World) (h1 : Sl RInt 1 (fun _=>True) w a1 l1 cs) (h2 : Sl RInt 1 (fun _=>True) w a2 l2 cs) (hl : l1≤1000000) :
  Calls Tryz.prog 28 #[.slice a1 l1 c1,.slice a2 l2 c2] w fun e w'=>e = .returned (.bool true)∧All w w':=by
 have e1:=h1.len;have e2:=h2.len;(have e3 : l2 = l1:=by omega);subst e3;clear e1 e2;(go_enter Tryz.func28,Tryz.ntmps28);(go_wp2_with fail);go_loopw [13] (fun i wr=>∃ k : Nat,k≤l2∧i = .int .i64 k∧All w wr) (fun i _=>l2 - (intOf i).toNat)
 case atStart=>exact ⟨0,Nat.zero_le _,rfl,Kept.refl _ _⟩
 case round =>
  obtain ⟨k,hk,rfl,hall⟩:=hrel;by_cases hlt : k < l2
  ·obtain ⟨b1,o1,y1,ha1,-,p0,hy1,-⟩:=(h1.keep RInt.ok hall).atInt hlt;obtain ⟨b2,o2,y2,ha2,-,q0,hy2,-⟩:=(h2.keep RInt.ok hall).atInt hlt;(have hy : y2 = y1:=by rw [hy1] at hy2; injection hy2 with hy2; exact hy2.symm);subst hy;subst ha1;subst ha2;clear h1 h2 hy1 hy2;go_wp2_with fail
   go_quiet (fail)
   (go_wp2_with fail);go_roundw
   case rel=>exact ⟨k+1,by omega,by go_num,hall.then_drewN _⟩
   case measure=>simp [intOf]; omega
  ·(have hd : decide ((k : Int) < (l2 : Int)) = false:=by simp; omega);(go_wp2_with fail);go_ret;exact ⟨rfl,hall⟩
def WrongV (er : Int) (zs : List Int) (e : Ending) (w' : World) : Prop :=
 (er = 0→∃ (p : Option Addr) (c : Nat),e = .returned (.tuple #[.slice p zs.length c,.int .i64 0])∧Sl RInt 1 (fun _=>True) w' p zs.length zs)∧(er≠0→e = .returned (.tuple #[.slice none 0 0,.int .i64 er]))
theorem WrongV.bad {er : Int} {zs : List Int} {w' : World} (h : er≠0) : WrongV er zs (.returned (.tuple #[.slice none 0 0,.int .i64 er])) w':=⟨fun h0=>absurd h0 h,fun _=>rfl⟩
theorem wrongL_step {s : Set7} {ts : List Raw} {k : Nat} {z : Raw} (h : ts.take (k+1) = ts.take k ++ [z]) : wrongL s ((ts.take (k+1)).map (·.1)) = if wrongB s z.1 = true then wrongL s ((ts.take k).map (·.1)) ++ [z.1.no] else wrongL s ((ts.take k).map (·.1)):=by
 rw [h,List.map_append,wrongL,List.filter_append,List.map_append];by_cases h1 : wrongB s z.1 = true <;> simp [wrongL,h1]
set_option maxRecDepth 100000 in
set_option maxHeartbeats 12800000 in
theorem wrong_any (a0 : Option Addr) (l0 c0 : Nat) (a1 : Option Addr) (l1 c1 : Nat) (a2 : Option Addr) (l2 c2 : Nat) (a3 : Option Addr) (l3 c3 : Nat) (a4 : Option Addr) (l4 c4 : Nat) (s : Set7) (al : Option Addr) (ll cl : Nat) (xs : List Rev) (ts : List Raw) (w : World) (his : SetIs (fun _=>True) w a0 l0 a1 l1 a2 l2 a3 l3 a4 l4 s) (hsx : Sl RRev 7 (fun _=>True) w al ll xs) (hst : Sl RRaw 7 (fun _=>True) w al ll ts) (hts : ts.map (·.1) = xs) (hl : ll≤1000000) (hlc : ll≤cl) (hg : Glob w) :
  Calls Tryz.prog 25 #[.agg #[.slice a0 l0 c0,.slice a1 l1 c1,.slice a2 l2 c2,.slice a3 l3 c3,.slice a4 l4 c4,.int .i64 s.due,.int .i64 s.reply],.slice al ll cl] w fun e w'=>WrongV (revsF s xs) (wrongL s xs) e w'∧All w w':=by
 have hk1 : All w (w.alloc (.cells #[.slice a0 l0 c0,.slice a1 l1 c1,.slice a2 l2 c2,.slice a3 l3 c3,.slice a4 l4 c4,.int .i64 s.due,.int .i64 s.reply] 31)):=Kept.alloc _ _ _;have hb:=heap_at w (.cells #[.slice a0 l0 c0,.slice a1 l1 c1,.slice a2 l2 c2,.slice a3 l3 c3,.slice a4 l4 c4,.int .i64 s.due,.int .i64 s.reply] 31) _ rfl;obtain ⟨bb,hbb⟩ : ∃ b,b = w.heap.size:=⟨_,rfl⟩;have HBB:=Lib.hid hbb;rw [← hbb] at hb;have HCK:=Lib.hid (check_any a0 l0 c0 a1 l1 c1 a2 l2 c2 a3 l3 c3 a4 l4 c4 s al ll cl xs _ (his.keep hk1) (hsx.keep RRev.ok hk1) hl hlc (hg.keep hk1));have HIS:=Lib.hid (fun (wx : World) (k : All (w.alloc (.cells #[.slice a0 l0 c0,.slice a1 l1 c1,.slice a2 l2 c2,.slice a3 l3 c3,.slice a4 l4 c4,.int .i64 s.due,.int .i64 s.reply] 31)) wx)=>his.keep (hk1.trans k));have HSL:=Lib.hid (fun (wx : World) (k : All (w.alloc (.cells #[.slice a0 l0 c0,.slice a1 l1 c1,.slice a2 l2 c2,.slice a3 l3 c3,.slice a4 l4 c4,.int .i64 s.due,.int .i64 s.reply] 31)) wx)=>hst.keep RRaw.ok (hk1.trans k));have HTL:=Lib.hid hst.len;have HK1:=Lib.hid hk1;have HB:=Lib.hid (fun (wx : World) (k : All (w.alloc (.cells #[.slice a0 l0 c0,.slice a1 l1 c1,.slice a2 l2 c2,.slice a3 l3 c3,.slice a4 l4 c4,.int .i64 s.due,.int .i64 s.reply] 31)) wx)=>k.heap hb trivial);have hn1:=his.n1;have hn3:=his.n3;obtain ⟨er,her⟩ : ∃ z,z = revsF s xs:=⟨_,rfl⟩;have HER:=Lib.hid her;rw [← her] at HCK ⊢;have HTS:=Lib.hid hts;have e0:=cell_at (i:=0) hb rfl;have e1:=cell_at (i:=1) hb rfl;have e2:=cell_at (i:=2) hb rfl;have e3:=cell_at (i:=3) hb rfl;have e4:=cell_at (i:=4) hb rfl;have e5:=cell_at (i:=5) hb rfl;have e6:=cell_at (i:=6) hb rfl;clear her hbb hb his hsx hst hg hk1 hts;(go_enter Tryz.func25,Tryz.ntmps25);(go_upto_region 1 with fail);simp only [← HBB.out];generalize w.alloc (.cells #[.slice a0 l0 c0,.slice a1 l1 c1,.slice a2 l2 c2,.slice a3 l3 c3,.slice a4 l4 c4,.int .i64 s.due,.int .i64 s.reply] 31) = w1 at *;(go_wp2_with fail);refine (HCK.out).mono ?_;rintro e w2 ⟨rfl,hw2⟩;clear e0 e1 e2 e3 e4 e5 e6;by_cases h0 : er = 0
 case neg =>
  (have hd : (er != 0) = true:=by simpa using h0);have H0:=Lib.hid h0;clear h0;(go_wp2_with fail);go_ret2;exact ⟨WrongV.bad H0.out,HK1.out.trans hw2⟩
 case pos =>
  have HZ:=Lib.hid (show revsF s xs = 0 from by rw [← HER.out,h0]);have HRS:=Lib.hid (setupF_rises (revsF_setup0 HZ.out));have HWE:=Lib.hid (fun (r : Rev) (h : r.by_.size = 0)=>wrongB_empty (revsF_setup0 HZ.out) h);have HBI:=Lib.hid (fun (z : Raw)=>(show wrongB s z.1 = (inP s.barred z.1.paper z.1.by_ || authB s.papers z.1.paper z.1.by_) from rfl));subst h0;have hd : ((0 : Int) != 0) = false:=rfl;obtain ⟨bw,hbw⟩ : ∃ z,z = w2.heap.size:=⟨_,rfl⟩;have hbw2 : bw≤w2.heap.size:=Nat.le_of_eq hbw;have HBW:=Lib.hid (show w2.heap.size≤bw from Nat.le_of_eq hbw.symm);clear hbw;(go_wp2_with fail);go_loopw [7,18] (fun o i wr=>∃ k : Nat,k≤ll∧i = .int .i64 k∧Acc RInt 1 3 (fun _=>False) bw wr o (wrongL s ((ts.take k).map (·.1)))∧All w2 wr) (fun _ i _=>ll - (intOf i).toNat)
  case atStart=>exact ⟨0,Nat.zero_le _,rfl,Acc.nil _ _ _ _ _ _,Kept.refl _ _⟩
  case round =>
   obtain ⟨k,hk,rfl,hacc0,hwr⟩:=hrel;obtain ⟨wo,rfl⟩ : ∃ wo : World,wo = wr:=⟨_,rfl⟩;by_cases hlt : k < ll
   ·obtain ⟨b,off,z,ha,-,r0,r1,r2,r3,r4,r5,r6,hzsm,-,htk⟩:=(HSL.out _ (hw2.trans hwr)).atRaw hlt;have HA:=Lib.hid ha;have HY:=Lib.hid (wrongL_step (s:=s) htk);have hzs1 : z.1.paper.size≤1000000:=hzsm.1;have hzs2 : z.1.by_.size≤1000000:=hzsm.2.2.1;have HQ:=Lib.hid (HBI.out z);have HQE:=Lib.hid (HWE.out z.1);obtain ⟨os,hos⟩ : ∃ q,q = wrongL s ((ts.take k).map (·.1)):=⟨_,rfl⟩;have hon : os.length≤k:=by
     rw [hos];refine Nat.le_trans (wrongL_len _ _) ?_;rw [List.length_map];exact List.length_take_le _ _
    rw [← hos] at hacc0 HY;have hko : All wo (wo.alloc (.cells #[.int .i64 z.1.no,.int .i64 z.1.tm,.string z.1.paper,.string z.1.person,.string z.1.by_,.bool z.1.done,.slice z.2.1 z.1.answers.length z.2.2] 73)):=Kept.alloc _ _ _;have hblk:=heap_at wo (.cells #[.int .i64 z.1.no,.int .i64 z.1.tm,.string z.1.paper,.string z.1.person,.string z.1.by_,.bool z.1.done,.slice z.2.1 z.1.answers.length z.2.2] 73) _ rfl;obtain ⟨rb,hrb⟩ : ∃ q,q = wo.heap.size:=⟨_,rfl⟩;have HRB:=Lib.hid hrb;rw [← hrb] at hblk;have hacc:=hacc0.keepAll RInt.ok hko;have hwa:=hwr.trans hko;obtain ⟨oa,oc,rfl,hoc⟩:=hacc.form;clear htk hacc0 hwr hko hrb hos hzsm;subst ha;(go_upto_region 8 with fail);simp only [← HRB.out];generalize wo.alloc (.cells #[.int .i64 z.1.no,.int .i64 z.1.tm,.string z.1.paper,.string z.1.person,.string z.1.by_,.bool z.1.done,.slice z.2.1 z.1.answers.length z.2.2] 73) = wa at *;clear r0 r1 r2 r3 r4 r5 r6;have u0:=cell_at (i:=0) hblk rfl;have u2:=cell_at (i:=2) hblk rfl;have u4:=cell_at (i:=4) hblk rfl;have hsz:=hwa.size;have HR2:=Lib.hid (fun (wx : World) (k : All wa wx)=>k.heap hblk trivial);by_cases hbz : z.1.by_.size = 0
    case pos =>
     have hd2:=strs_emp hbz;(have hd3 : z.1.by_.toList.isEmpty = true:=by rw [toList_nil hbz]; rfl);replace HY:=Lib.hid (show wrongL s ((ts.take (k+1)).map (·.1)) = os from by rw [HY.out,if_neg (by rw [HQE.out hbz]; decide)]);clear hbz u0 u2 hblk;have hfin:=Lib.hid hacc;clear hacc;(go_wp2_with fail);go_roundw
     case rel=>exact ⟨k+1,by omega,by go_num,by rw [HY.out]; exact hfin.out,hwa⟩
     case measure=>simp [intOf]; omega
    case neg =>
     have hd2:=strs_nemp hbz;have hd3 : z.1.by_.toList.isEmpty = false:=by
      have:=toList_ne hbz
      cases hc : z.1.by_.toList with
      | nil=>exact absurd hc this
      | cons _ _=>rfl
     obtain ⟨mt,hmt⟩ : ∃ q,q = inP s.barred z.1.paper z.1.by_:=⟨_,rfl⟩;obtain ⟨ab,hab⟩ : ∃ q,q = authB s.papers z.1.paper z.1.by_:=⟨_,rfl⟩;have HIC:=Lib.hid (show Calls Tryz.prog 74 #[.slice a3 l3 c3,.agg #[.string z.1.paper,.string z.1.by_]] wa fun e w'=>e = .returned (.bool mt)∧All wa w' from by rw [hmt]; exact isInR_any a3 l3 c3 s.barred ⟨z.1.paper,z.1.by_,hzs1,hzs2⟩ _ (HIS.out _ (hw2.trans hwa)).barred (by omega) HRS.out.2.2.2);have HAC:=Lib.hid (fun (wx : World) (k : All w1 wx)=>(show Calls Tryz.prog 75 #[.agg #[.slice a0 l0 c0,.slice a1 l1 c1,.slice a2 l2 c2,.slice a3 l3 c3,.slice a4 l4 c4,.int .i64 s.due,.int .i64 s.reply],.string z.1.paper,.string z.1.by_] wx fun e w'=>e = .returned (.bool ab)∧All wx w' from by rw [hab]; exact isAuthor_any a0 l0 c0 a1 l1 c1 a2 l2 c2 a3 l3 c3 a4 l4 c4 s.due s.reply s.papers z.1.paper z.1.by_ wx (HIS.out _ k).papers (by omega) HRS.out.1));rw [← hmt,← hab] at HQ;clear hmt hab;have e0:=cell_at (i:=0) (HB.out _ (hw2.trans hwa)) rfl;have e1:=cell_at (i:=1) (HB.out _ (hw2.trans hwa)) rfl;have e2:=cell_at (i:=2) (HB.out _ (hw2.trans hwa)) rfl;have e3:=cell_at (i:=3) (HB.out _ (hw2.trans hwa)) rfl;have e4:=cell_at (i:=4) (HB.out _ (hw2.trans hwa)) rfl;have e5:=cell_at (i:=5) (HB.out _ (hw2.trans hwa)) rfl;have e6:=cell_at (i:=6) (HB.out _ (hw2.trans hwa)) rfl;clear hbz hblk u0;(go_wp2_with fail);refine (HIC.out).mono ?_;rintro e w5 ⟨rfl,hw5⟩;have hblk5:=HR2.out _ hw5;clear e0 e1 e2 e3 e4 e5 e6 u2 u4;replace hwa:=hwa.trans hw5;replace hacc:=hacc.keepAll RInt.ok hw5;have hsz:=hwa.size
     cases mt with
     | true =>
      replace HY:=Lib.hid (show wrongL s ((ts.take (k+1)).map (·.1)) = os ++ [z.1.no] from by rw [HY.out,if_pos (by rw [HQ.out]; rfl)]);have u0:=cell_at (i:=0) hblk5 rfl;clear hblk5 hw5;(go_wp2_with (at_builtin; refine wp_append1 RInt.ok _ rfl _ _ 22 rfl bw 3 (.int .i64 0) 1 8 Tryz.underlying22 (by kernel_rfl) rfl (by decide) (fun _=>False) _ (os) rfl (hacc.keepAll RInt.ok (Kept.alloc _ _ _)) ⟨_,0,none⟩ 1 [.int .i64 z.1.no] rfl rfl (World.news_of_block (cs:=#[.int .i64 z.1.no]) (heap_at _ _ _ (by simp))) (by simp [Value.oneCell']) z.1.no rfl (by omega) (by decide) (by simp at *; omega) ?_));intro p9 c9 w9 hacc9 hg9 _;have hk9:=Lib.hid ((hwa.then_alloc _).grown hg9 (fun j hj=>Or.inl (by have:=(hacc.lt j hj).1; have:=HBW.out; omega)));have hfin:=Lib.hid hacc9;clear hacc9 hg9 hacc hwa;(go_wp2_with fail);go_roundw
      case rel=>exact ⟨k+1,by omega,by go_num,by rw [HY.out]; exact hfin.out,hk9.out⟩
      case measure=>simp [intOf]; omega
     | false =>
      have u0:=cell_at (i:=0) hblk5 rfl;have u2:=cell_at (i:=2) hblk5 rfl;have u4:=cell_at (i:=4) hblk5 rfl;have e0:=cell_at (i:=0) (HB.out _ (hw2.trans hwa)) rfl;have e1:=cell_at (i:=1) (HB.out _ (hw2.trans hwa)) rfl;have e2:=cell_at (i:=2) (HB.out _ (hw2.trans hwa)) rfl;have e3:=cell_at (i:=3) (HB.out _ (hw2.trans hwa)) rfl;have e4:=cell_at (i:=4) (HB.out _ (hw2.trans hwa)) rfl;have e5:=cell_at (i:=5) (HB.out _ (hw2.trans hwa)) rfl;have e6:=cell_at (i:=6) (HB.out _ (hw2.trans hwa)) rfl;(go_wp2_with fail);refine (HAC.out _ (hw2.trans hwa)).mono ?_;rintro e w6 ⟨rfl,hw6⟩;have hblk6:=HR2.out _ (hw5.trans hw6);clear e0 e1 e2 e3 e4 e5 e6 u0 u2 u4 hblk5;replace hwa:=hwa.trans hw6;replace hacc:=hacc.keepAll RInt.ok hw6;have hsz:=hwa.size
      cases ab with
      | true =>
       replace HY:=Lib.hid (show wrongL s ((ts.take (k+1)).map (·.1)) = os ++ [z.1.no] from by rw [HY.out,if_pos (by rw [HQ.out]; rfl)]);have u0:=cell_at (i:=0) hblk6 rfl;clear hblk6 hw5 hw6;(go_wp2_with (at_builtin; refine wp_append1 RInt.ok _ rfl _ _ 22 rfl bw 3 (.int .i64 0) 1 8 Tryz.underlying22 (by kernel_rfl) rfl (by decide) (fun _=>False) _ (os) rfl (hacc.keepAll RInt.ok (Kept.alloc _ _ _)) ⟨_,0,none⟩ 1 [.int .i64 z.1.no] rfl rfl (World.news_of_block (cs:=#[.int .i64 z.1.no]) (heap_at _ _ _ (by simp))) (by simp [Value.oneCell']) z.1.no rfl (by omega) (by decide) (by simp at *; omega) ?_));intro p9 c9 w9 hacc9 hg9 _;have hk9:=Lib.hid ((hwa.then_alloc _).grown hg9 (fun j hj=>Or.inl (by have:=(hacc.lt j hj).1; have:=HBW.out; omega)));have hfin:=Lib.hid hacc9;clear hacc9 hg9 hacc hwa;(go_wp2_with fail);go_roundw
       case rel=>exact ⟨k+1,by omega,by go_num,by rw [HY.out]; exact hfin.out,hk9.out⟩
       case measure=>simp [intOf]; omega
      | false =>
       replace HY:=Lib.hid (show wrongL s ((ts.take (k+1)).map (·.1)) = os from by rw [HY.out,if_neg (by rw [HQ.out]; decide)]);clear hblk6 hw5 hw6;have hfin:=Lib.hid hacc;clear hacc;(go_wp2_with fail);go_roundw
       case rel=>exact ⟨k+1,by omega,by go_num,by rw [HY.out]; exact hfin.out,hwa⟩
       case measure=>simp [intOf]; omega
   ·(have hdk : decide ((k : Int) < (ll : Int)) = false:=by simp; omega);have HE3:=Lib.hid (show (ts.take k).map (·.1) = xs from by rw [List.take_of_length_le (by have:=HTL.out; omega),HTS.out]);rw [HE3.out] at hacc0;obtain ⟨pa,pc,rfl,hsl⟩:=hacc0.sl RInt.ok (by decide) (G:=fun _=>True) (fun _ h=>h.elim) (fun _ _=>trivial);have HSL2:=Lib.hid hsl;have hfin:=Lib.hid (HK1.out.trans (hw2.trans hwr));clear hacc0 hsl hwr;(go_wp2_with fail);go_ret2;exact ⟨⟨fun _=>⟨pa,pc,rfl,HSL2.out⟩,fun h=>absurd rfl h⟩,hfin.out⟩
set_option maxRecDepth 100000 in
set_option maxHeartbeats 12800000 in
theorem wrongOf_any (a0 : Option Addr) (l0 c0 : Nat) (a1 : Option Addr) (l1 c1 : Nat) (a2 : Option Addr) (l2 c2 : Nat) (a3 : Option Addr) (l3 c3 : Nat) (a4 : Option Addr) (l4 c4 : Nat) (s : Set7) (al : Option Addr) (ll cl : Nat) (xs : List Rev) (ts : List Raw) (w : World) (his : SetIs (fun _=>True) w a0 l0 a1 l1 a2 l2 a3 l3 a4 l4 s) (hst : Sl RRaw 7 (fun _=>True) w al ll ts) (hts : ts.map (·.1) = xs) (hl : ll≤1000000) :
  Calls Tryz.prog 29 #[.agg #[.slice a0 l0 c0,.slice a1 l1 c1,.slice a2 l2 c2,.slice a3 l3 c3,.slice a4 l4 c4,.int .i64 s.due,.int .i64 s.reply],.slice al ll cl] w fun e w'=>(∃ (p : Option Addr) (c : Nat),e = .returned (.slice p (wrongL s xs).length c)∧Sl RInt 1 (fun _=>True) w' p (wrongL s xs).length (wrongL s xs))∧All w w':=by
 have hk1 : All w (w.alloc (.cells #[.slice a0 l0 c0,.slice a1 l1 c1,.slice a2 l2 c2,.slice a3 l3 c3,.slice a4 l4 c4,.int .i64 s.due,.int .i64 s.reply] 31)):=Kept.alloc _ _ _;have hb:=heap_at w (.cells #[.slice a0 l0 c0,.slice a1 l1 c1,.slice a2 l2 c2,.slice a3 l3 c3,.slice a4 l4 c4,.int .i64 s.due,.int .i64 s.reply] 31) _ rfl;obtain ⟨bb,hbb⟩ : ∃ b,b = w.heap.size:=⟨_,rfl⟩;have HBB:=Lib.hid hbb;rw [← hbb] at hb;have HIS:=Lib.hid (fun (wx : World) (k : All (w.alloc (.cells #[.slice a0 l0 c0,.slice a1 l1 c1,.slice a2 l2 c2,.slice a3 l3 c3,.slice a4 l4 c4,.int .i64 s.due,.int .i64 s.reply] 31)) wx)=>his.keep (hk1.trans k));have HSL:=Lib.hid (fun (wx : World) (k : All (w.alloc (.cells #[.slice a0 l0 c0,.slice a1 l1 c1,.slice a2 l2 c2,.slice a3 l3 c3,.slice a4 l4 c4,.int .i64 s.due,.int .i64 s.reply] 31)) wx)=>hst.keep RRaw.ok (hk1.trans k));have HTL:=Lib.hid hst.len;have HK1:=Lib.hid hk1;have HB:=Lib.hid (fun (wx : World) (k : All (w.alloc (.cells #[.slice a0 l0 c0,.slice a1 l1 c1,.slice a2 l2 c2,.slice a3 l3 c3,.slice a4 l4 c4,.int .i64 s.due,.int .i64 s.reply] 31)) wx)=>k.heap hb trivial);have hn1:=his.n1;have hn3:=his.n3;have HTS:=Lib.hid hts;have HBI:=Lib.hid (fun (z : Raw)=>(show wrongB s z.1 = (inP s.barred z.1.paper z.1.by_ || authB s.papers z.1.paper z.1.by_) from rfl));clear hbb hb his hst hk1 hts;(go_enter Tryz.func29,Tryz.ntmps29);(go_upto_region 2 with fail);simp only [← HBB.out];generalize w.alloc (.cells #[.slice a0 l0 c0,.slice a1 l1 c1,.slice a2 l2 c2,.slice a3 l3 c3,.slice a4 l4 c4,.int .i64 s.due,.int .i64 s.reply] 31) = w1 at *;obtain ⟨bw,hbw⟩ : ∃ z,z = w1.heap.size:=⟨_,rfl⟩;have hbw2 : bw≤w1.heap.size:=Nat.le_of_eq hbw;have HBW:=Lib.hid (show w1.heap.size≤bw from Nat.le_of_eq hbw.symm);clear hbw;(go_wp2_with fail);go_loopw [5,11] (fun o i wr=>∃ k : Nat,k≤ll∧i = .int .i64 k∧Acc RInt 1 3 (fun _=>False) bw wr o (wrongL s ((ts.take k).map (·.1)))∧All w1 wr) (fun _ i _=>ll - (intOf i).toNat)
 case atStart=>exact ⟨0,Nat.zero_le _,rfl,Acc.nil _ _ _ _ _ _,Kept.refl _ _⟩
 case round =>
  obtain ⟨k,hk,rfl,hacc0,hwr⟩:=hrel;obtain ⟨wo,rfl⟩ : ∃ wo : World,wo = wr:=⟨_,rfl⟩;by_cases hlt : k < ll
  ·obtain ⟨b,off,z,ha,-,r0,r1,r2,r3,r4,r5,r6,hzsm,-,htk⟩:=(HSL.out _ hwr).atRaw hlt;have HA:=Lib.hid ha;have HY:=Lib.hid (wrongL_step (s:=s) htk);have hzs1 : z.1.paper.size≤1000000:=hzsm.1;have hzs2 : z.1.by_.size≤1000000:=hzsm.2.2.1;have HQ:=Lib.hid (HBI.out z);obtain ⟨os,hos⟩ : ∃ q,q = wrongL s ((ts.take k).map (·.1)):=⟨_,rfl⟩;have hon : os.length≤k:=by
    rw [hos];refine Nat.le_trans (wrongL_len _ _) ?_;rw [List.length_map];exact List.length_take_le _ _
   rw [← hos] at hacc0 HY;have hko : All wo ((wo.alloc (.cells #[.int .i64 z.1.no,.int .i64 z.1.tm,.string z.1.paper,.string z.1.person,.string z.1.by_,.bool z.1.done,.slice z.2.1 z.1.answers.length z.2.2] 73)).alloc (.cells #[.string z.1.paper,.string z.1.by_] 39)):=(Kept.alloc _ _ _).then_alloc _;have hblk:=heap_old (.cells #[.string z.1.paper,.string z.1.by_] 39) (heap_at wo (.cells #[.int .i64 z.1.no,.int .i64 z.1.tm,.string z.1.paper,.string z.1.person,.string z.1.by_,.bool z.1.done,.slice z.2.1 z.1.answers.length z.2.2] 73) _ rfl);have hblk2:=heap_at (wo.alloc (.cells #[.int .i64 z.1.no,.int .i64 z.1.tm,.string z.1.paper,.string z.1.person,.string z.1.by_,.bool z.1.done,.slice z.2.1 z.1.answers.length z.2.2] 73)) (.cells #[.string z.1.paper,.string z.1.by_] 39) (wo.heap.size+1) (by simp);obtain ⟨rb,hrb⟩ : ∃ q,q = wo.heap.size:=⟨_,rfl⟩;have HRB:=Lib.hid hrb;obtain ⟨pb,hpb⟩ : ∃ q,q = wo.heap.size+1:=⟨_,rfl⟩;have HPB:=Lib.hid (show pb = rb+1 from by omega);rw [← hrb] at hblk;rw [← hpb] at hblk2;have hacc:=hacc0.keepAll RInt.ok hko;have hwa:=hwr.trans hko;obtain ⟨oa,oc,rfl,hoc⟩:=hacc.form;clear htk hacc0 hwr hko hrb hpb hos hzsm;subst ha;(go_upto_region 6 with fail);simp only [← HRB.out,← HPB.out];generalize (wo.alloc (.cells #[.int .i64 z.1.no,.int .i64 z.1.tm,.string z.1.paper,.string z.1.person,.string z.1.by_,.bool z.1.done,.slice z.2.1 z.1.answers.length z.2.2] 73)).alloc (.cells #[.string z.1.paper,.string z.1.by_] 39) = wa at *;clear r0 r1 r2 r3 r4 r5 r6;have hsz:=hwa.size;have HR2:=Lib.hid (fun (wx : World) (k : All wa wx)=>(⟨k.heap hblk trivial,k.heap hblk2 trivial⟩ : wx.heap[rb]? = _∧wx.heap[pb]? = _));obtain ⟨mt,hmt⟩ : ∃ q,q = inP s.barred z.1.paper z.1.by_:=⟨_,rfl⟩;obtain ⟨ab,hab⟩ : ∃ q,q = authB s.papers z.1.paper z.1.by_:=⟨_,rfl⟩;have HIC:=Lib.hid (show Calls Tryz.prog 64 #[.slice a3 l3 c3,.agg #[.string z.1.paper,.string z.1.by_]] wa fun e w'=>e = .returned (.bool mt)∧All wa w' from by rw [hmt]; exact containsP_any a3 l3 c3 s.barred z.1.paper z.1.by_ _ (HIS.out _ hwa).barred (by omega));have HAC:=Lib.hid (fun (wx : World) (k : All w1 wx)=>(show Calls Tryz.prog 66 #[.slice a1 l1 c1,.agg #[.string z.1.paper,.string z.1.by_]] wx fun e w'=>e = .returned (.bool ab)∧All wx w' from by rw [hab]; exact author_any a1 l1 c1 s.papers ⟨z.1.paper,z.1.by_,hzs1,hzs2⟩ wx (HIS.out _ k).papers (by omega)));rw [← hmt,← hab] at HQ;clear hmt hab;have e3:=cell_at (i:=3) (HB.out _ hwa) rfl;have p0:=cell_at (i:=0) hblk2 rfl;have p1:=cell_at (i:=1) hblk2 rfl;clear hblk hblk2;(go_wp2_with fail);refine (HIC.out).mono ?_;rintro e w5 ⟨rfl,hw5⟩;obtain ⟨hblk5,hblk52⟩:=HR2.out _ hw5;clear e3 p0 p1;replace hwa:=hwa.trans hw5;replace hacc:=hacc.keepAll RInt.ok hw5;have hsz:=hwa.size
   cases mt with
   | true =>
    replace HY:=Lib.hid (show wrongL s ((ts.take (k+1)).map (·.1)) = os ++ [z.1.no] from by rw [HY.out,if_pos (by rw [HQ.out]; rfl)]);have u0:=cell_at (i:=0) hblk5 rfl;clear hblk5 hblk52 hw5;(go_wp2_with (at_builtin; refine wp_append1 RInt.ok _ rfl _ _ 22 rfl bw 3 (.int .i64 0) 1 8 Tryz.underlying22 (by kernel_rfl) rfl (by decide) (fun _=>False) _ (os) rfl (hacc.keepAll RInt.ok (Kept.alloc _ _ _)) ⟨_,0,none⟩ 1 [.int .i64 z.1.no] rfl rfl (World.news_of_block (cs:=#[.int .i64 z.1.no]) (heap_at _ _ _ (by simp))) (by simp [Value.oneCell']) z.1.no rfl (by omega) (by decide) (by simp at *; omega) ?_));intro p9 c9 w9 hacc9 hg9 _;have hk9:=Lib.hid ((hwa.then_alloc _).grown hg9 (fun j hj=>Or.inl (by have:=(hacc.lt j hj).1; have:=HBW.out; omega)));have hfin:=Lib.hid hacc9;clear hacc9 hg9 hacc hwa;(go_wp2_with fail);go_roundw
    case rel=>exact ⟨k+1,by omega,by go_num,by rw [HY.out]; exact hfin.out,hk9.out⟩
    case measure=>simp [intOf]; omega
   | false =>
    have e1:=cell_at (i:=1) (HB.out _ hwa) rfl;have p0:=cell_at (i:=0) hblk52 rfl;have p1:=cell_at (i:=1) hblk52 rfl;(go_wp2_with fail);refine (HAC.out _ hwa).mono ?_;rintro e w6 ⟨rfl,hw6⟩;obtain ⟨hblk6,-⟩:=HR2.out _ (hw5.trans hw6);clear e1 p0 p1 hblk5 hblk52;replace hwa:=hwa.trans hw6;replace hacc:=hacc.keepAll RInt.ok hw6;have hsz:=hwa.size
    cases ab with
    | true =>
     replace HY:=Lib.hid (show wrongL s ((ts.take (k+1)).map (·.1)) = os ++ [z.1.no] from by rw [HY.out,if_pos (by rw [HQ.out]; rfl)]);have u0:=cell_at (i:=0) hblk6 rfl;clear hblk6 hw5 hw6;(go_wp2_with (at_builtin; refine wp_append1 RInt.ok _ rfl _ _ 22 rfl bw 3 (.int .i64 0) 1 8 Tryz.underlying22 (by kernel_rfl) rfl (by decide) (fun _=>False) _ (os) rfl (hacc.keepAll RInt.ok (Kept.alloc _ _ _)) ⟨_,0,none⟩ 1 [.int .i64 z.1.no] rfl rfl (World.news_of_block (cs:=#[.int .i64 z.1.no]) (heap_at _ _ _ (by simp))) (by simp [Value.oneCell']) z.1.no rfl (by omega) (by decide) (by simp at *; omega) ?_));intro p9 c9 w9 hacc9 hg9 _;have hk9:=Lib.hid ((hwa.then_alloc _).grown hg9 (fun j hj=>Or.inl (by have:=(hacc.lt j hj).1; have:=HBW.out; omega)));have hfin:=Lib.hid hacc9;clear hacc9 hg9 hacc hwa;(go_wp2_with fail);go_roundw
     case rel=>exact ⟨k+1,by omega,by go_num,by rw [HY.out]; exact hfin.out,hk9.out⟩
     case measure=>simp [intOf]; omega
    | false =>
     replace HY:=Lib.hid (show wrongL s ((ts.take (k+1)).map (·.1)) = os from by rw [HY.out,if_neg (by rw [HQ.out]; decide)]);clear hblk6 hw5 hw6;have hfin:=Lib.hid hacc;clear hacc;(go_wp2_with fail);go_roundw
     case rel=>exact ⟨k+1,by omega,by go_num,by rw [HY.out]; exact hfin.out,hwa⟩
     case measure=>simp [intOf]; omega
  ·(have hdk : decide ((k : Int) < (ll : Int)) = false:=by simp; omega);have HE3:=Lib.hid (show (ts.take k).map (·.1) = xs from by rw [List.take_of_length_le (by have:=HTL.out; omega),HTS.out]);rw [HE3.out] at hacc0;obtain ⟨pa,pc,rfl,hsl⟩:=hacc0.sl RInt.ok (by decide) (G:=fun _=>True) (fun _ h=>h.elim) (fun _ _=>trivial);have HSL2:=Lib.hid hsl;have hfin:=Lib.hid (HK1.out.trans hwr);clear hacc0 hsl hwr;(go_wp2_with fail);go_ret;exact ⟨⟨pa,pc,rfl,HSL2.out⟩,hfin.out⟩
end Go.Proofs.YtjbaijgdkkccbaaGreatDoor
