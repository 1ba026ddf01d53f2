/- A range over an iterator that keeps in a box what is still to come: the statement's law. -/
import Derived.RangeFuncNested
import Derived.RangeFuncBound
import Derived.RangeFuncCalls
import Derived.RangeFuncLeaves
import Derived.Shelf.Abstract
import Derived.Shelf.RegionOpen
import Derived.WalkKit
import Derived.OwnWalkIn
import Derived.TacticsInMore
import Derived.LoopNIn
import Derived.LoopIn
import Derived.Test.YtjbaijgdkkccbaaGreatDoorZc
import Derived.Test.YtjbaijgdkkccbaaGreatDoorProg
import Derived.Test.YtjbaijgdkkccbaaGreatDoorSu
import Derived.Test.YtjbaijgdkkccbaaGreatDoorAa
import Derived.Test.YtjbaijgdkkccbaaGreatDoorFs
import Derived.Test.YtjbaijgdkkccbaaGreatDoorSv
import Derived.Test.YtjbaijgdkkccbaaGreatDoorZn
import Derived.Test.YtjbaijgdkkccbaaGreatDoorBv
import Derived.Test.YtjbaijgdkkccbaaGreatDoorSd
import Derived.Test.YtjbaijgdkkccbaaGreatDoorSj
namespace Go.Proofs.YtjbaijgdkkccbaaGreatDoor
open Go.RowKit Go.Shelf

def SeqBox {α : Type} (P : Program) (g : Nat) (lb : Array Value) (encs : α→Array Value) (B : Nat) (t : TypeId) (v : Value) (xs : List α) : Prop :=
 ∀ (l : Nat) (J : List α→World→Prop) (W : World),Boxed W B t v→(∀ pre W1 u,J pre W1→J pre (W1.setCell ⟨B,0,none⟩ u))→(∀ pre W1,J pre W1→J pre W1.drew) →
  (∀ pre x W1,pre ++ [x] <+: xs→J pre W1→YieldAt Fence.wide 0 P l (encs x) W1 fun e W'=>e=.returned (.bool true)∧J (pre ++ [x]) W'∧W'.heap[B]? = W1.heap[B]?) →
  J [] W→CallsIn Fence.wide 0 P g (#[.func (.yield l) #[] #[]] ++ lb) W fun e W'=>(∃ v,e=.returned v)∧J xs W'

theorem wp_rangeFunc_box {α : Type} {P : Program} {g : Operand} {ps : Array Tmp} {assign body : Code} {Q : Exit→Act→World→Prop} {a : Act} {w : World} {gf : Nat} {lb : Array Value}
  (hg : a.eval g=.func (.func gf) #[] lb) (eg : ∀ args w,(callFunc gf args).run P w=.ok (.enter gf args) w) {encs : α→Array Value} {B : Nat} {t : TypeId} {v : Value} {xs : List α}
  (hseq : SeqBox P gf lb encs B t v xs) (hB : Boxed w B t v) (hps : ∀ x,(encs x).size=ps.size)
  (I : List α→World→Prop) (hI : OwnFrom w.heap.size I) (hIB : ∀ pre W u,I pre W→I pre (W.setCell ⟨B,0,none⟩ u)) (hId : ∀ pre W,I pre W→I pre W.drew) (h0 : I [] w) (a₁ : α→Act)
  (hassign : ∀ (l : Nat) (x : α) (W : World) (K : Act→World→Prop),K (a₁ x) W →
   assign.wpIn (Fence.wide.inRound l) 0 P (Exit.then K (fun _ _ _=>False)) { tmps:=(ps.zip (encs x)).foldl (fun t (p,v)=>t.setIfInBounds p v) a.tmps,defers:=[] } W)
  (hbody : ∀ (l : Nat) (pre : List α) (x : α) (W : World),pre ++ [x] <+: xs→I pre W→body.wpIn (Fence.wide.inRound l) 0 P (fun e _ W'=>e=.normal∧KeepsFrom w.heap.size W W'∧W'.heap[B]? = W.heap[B]?∧I (pre ++ [x]) W') (a₁ x) W)
  (hdone : ∀ (D : Nat) (W : World),w.heap.size≤D→I xs W→W.heap[D]? = some (.deferred (some []))→Q .normal { a with defers:={ target:=.collected D,args:=#[] } :: a.defers } W) :
  (Code.rangeFunc g ps assign body).wp P Q a w:=by
 refine (wpIn_wide (n:=1)).1 (wpIn_rangeFunc ?_);intro fn _;(obtain ⟨r,hr⟩ : ∃ r : LoopState→Loop,r=fun st=>{ state:=st,pending:=none,fn,tmps:=a.tmps,params:=ps,assign,body,defers:=w.heap.size }:=⟨_,rfl⟩);obtain ⟨W1,hW1⟩ : ∃ W1,(w.alloc (.deferred (some []))).alloc (.loop (r .ready))=W1:=⟨_,rfl⟩;(have hL : W1.heap[w.heap.size+1]? = some (.loop (r .ready)):=by rw [← hW1]; exact heap_at _ _ _ (by simp));(have hK : W1.heap[w.heap.size]? = some (.deferred (some [])):=by rw [← hW1]; exact heap_old _ (heap_at w _ _ rfl));(have hI1 : I [] W1:=by rw [← hW1]; exact hI.alloc _ (hI.alloc _ h0));(have hB1 : Boxed W1 B t v:=by rw [← hW1]; exact (hB.alloc _).alloc _);have hlt:=hB.lt;refine ⟨w.heap.size+1,[{ target:=.collected w.heap.size,args:=#[] }],W1,{ target:=.fn (.func gf) lb,args:=#[.func (.yield (w.heap.size+1)) #[] #[]] },W1,gf,
  #[.func (.yield (w.heap.size+1)) #[] #[]] ++ lb,W1,?_,?_,?_,?_,fun _=>Nat.le_refl _,?_⟩
 ·rw [← hW1,hr]; exact run_enterLoop_outer _ _ _ _ _
 ·simp only [resolve,hg];simp [go_sem]
 ·intro f' _; trivial
 ·simp [invoke,go_sem,eg]
 ·refine (hseq (w.heap.size+1) (fun pre W=>I pre W∧W.heap[w.heap.size+1]? = some (.loop (r .ready))∧W.heap[w.heap.size]? = some (.deferred (some []))) W1 hB1 ?_ ?_ ?_ ⟨hI1,hL,hK⟩).mono ?_
  ·rintro pre W u ⟨h1,h2,h3⟩;exact ⟨hIB pre W u h1,(Below.heap_setCell _ _ _ _ (by dsimp only; omega)).trans h2,(Below.heap_setCell _ _ _ _ (by dsimp only; omega)).trans h3⟩
  ·rintro pre W ⟨h1,h2,h3⟩;exact ⟨hId pre W h1,h2,h3⟩
  ·rintro pre x W hpx ⟨hi,hl,hk⟩;have hlw : w.heap.size+1 < W.heap.size:=(Array.getElem?_eq_some_iff.1 hl).1;have hy:=run_yield (P:=P) (args:=encs x) hl (by rw [hr]; exact hps x);rw [hr] at hy;refine ⟨fn,_,assign,body,hy,roundIn_of_wpIn trivial (hassign _ x W _ ⟨_,run_beginRound hl (by rw [hr]),?_⟩)⟩;have hl2 : (W.putObj (w.heap.size+1) (.loop { r .ready with state:=.busy })).heap[w.heap.size+1]? = some (.loop { r .ready with state:=.busy }):=World.putObj_heap_same hlw;have hk2 : (W.putObj (w.heap.size+1) (.loop { r .ready with state:=.busy })).heap[w.heap.size]? = some (.deferred (some [])):=(World.putObj_heap_other (by omega)).trans hk;have hb2 : (W.putObj (w.heap.size+1) (.loop { r .ready with state:=.busy })).heap[B]? = W.heap[B]?:=World.putObj_heap_other (by omega);refine wpIn_mono (hbody _ pre x _ hpx (hI.putObj _ hi (by omega) hl rfl)) ?_;rintro e a3 W3 ⟨rfl,hk3,hb3,hi3⟩;have hl3:=hk3.same _ _ (by omega) hl2 rfl;have hk4:=hk3.same _ _ (Nat.le_refl _) hk2 rfl;have hlt3 : w.heap.size+1 < W3.heap.size:=(Array.getElem?_eq_some_iff.1 hl3).1;refine ⟨_,_,run_endRound (P:=P) none hl3,rfl,⟨hI.putObj _ hi3 (by omega) hl3 rfl,?_,(World.putObj_heap_other (by omega)).trans hk4⟩,(World.putObj_heap_other (by omega)).trans (hb3.trans hb2)⟩;rw [World.putObj_heap_same hlt3,hr];rfl
  ·rintro e W2 ⟨⟨v,rfl⟩,hi,hl,hk⟩;refine ⟨none,W2.putObj (w.heap.size+1) (.loop { r .ready with state:=.exhausted }),?_,hdone _ _ (Nat.le_refl _) (hI.putObj _ hi (by omega) hl rfl) ((World.putObj_heap_other (by omega)).trans hk)⟩;have:=run_endLoop (P:=P) hl (by rw [hr]; simp);rw [hr] at this ⊢;exact this

def Marks (B : Nat) (ds : List Deferred) (W : World) : Prop:=(ds.map (·.target)).Nodup∧∀ d ∈ ds,∃ D,d.target=.collected D∧B≤D∧W.heap[D]? = some (.deferred (some []))
theorem Marks.nil (B : Nat) (W : World) : Marks B [] W:=⟨by simp,by simp⟩
theorem Marks.keep {B : Nat} {ds : List Deferred} {W W' : World} (h : Marks B ds W) (hk : ∀ (k : Nat),B≤k→W.heap[k]? = some (.deferred (some []))→W'.heap[k]? = some (.deferred (some []))) : Marks B ds W' :=
 ⟨h.1,fun d hd=>by obtain ⟨D,h1,h2,h3⟩:=h.2 d hd; exact ⟨D,h1,h2,hk D h2 h3⟩⟩
theorem Marks.cons {B : Nat} {ds : List Deferred} {W W' : World} {D : Nat} (h : Marks B ds W) (hn : W.heap.size≤D) (hk : ∀ (k : Nat),B≤k→W.heap[k]? = some (.deferred (some []))→W'.heap[k]? = some (.deferred (some []))) (hB : B≤D) (hD : W'.heap[D]? = some (.deferred (some []))) : Marks B ({ target:=.collected D,args:=#[] } :: ds) W':=by
 refine ⟨?_,?_⟩
 ·rw [List.map_cons,List.nodup_cons];refine ⟨fun hm=>?_,h.1⟩;obtain ⟨d,hd,he⟩:=List.mem_map.1 hm;obtain ⟨D',h1,-,h3⟩:=h.2 d hd;rw [h1] at he
  cases he
  have:=(Array.getElem?_eq_some_iff.1 h3).1;omega
 ·intro d hd;rcases List.mem_cons.1 hd with rfl | hd
  ·exact ⟨D,rfl,hB,hD⟩
  ·exact (h.keep hk).2 d hd
theorem leaves_marks {P : Program} {fn : Func} {tmps : Array Value} {R : Ending→World→Prop} {B : Nat} {v : Value} {w0 : World} (hB : w0.heap.size≤B)
  (hv : ∀ W,(results fn tmps).run P W=.ok v W) (hR : ∀ W,All w0 W→R (.returned v) W) : ∀ (ds : List Deferred) (W : World),Marks B ds W→All w0 W→LeavesInM Fence.wide 0 P fn tmps R ds .returning W
 | [],W,_,hW=>by
  refine ⟨v,hv W,hR W hW⟩
 | d :: ds,W,hm,hW=>by
  obtain ⟨D,h1,h2,h3⟩:=hm.2 d (List.mem_cons_self ..);refine ⟨by simp,.inl ⟨D,_,h1,run_takeDeferred h3,?_⟩⟩;refine leaves_marks hB hv hR ds _ ⟨(List.nodup_cons.1 (by simpa using hm.1)).2,fun d' hd'=>?_⟩ ?_
  ·obtain ⟨D',k1,k2,k3⟩:=hm.2 d' (List.mem_cons_of_mem _ hd');refine ⟨D',k1,k2,(World.putObj_heap_other fun e=>?_).trans k3⟩;have hn:=(List.nodup_cons.1 (show ((d.target :: ds.map (·.target))).Nodup by simpa using hm.1)).1;exact hn (List.mem_map.2 ⟨d',hd',by rw [k1,h1,e]⟩)
  ·have hlt:=(Array.getElem?_eq_some_iff.1 h3).1;exact hW.trans2 (Kept.grown (F:=fun k=>k≠D) (Kept.refl _ W) (grownBy_putObj' W D _) (fun k hk=>by cases hk; exact .inr (fun h=>h rfl))) (fun i hi _ e=>by omega)
open Go.RowKit Go.Shelf
attribute [local go_sem] Oper.semAt_some

theorem indexByte_lt (c : UInt8) : ∀ l : List UInt8,Lib.indexByte l c < (l.length : Int)∨l=[]
 | []=>.inr rfl
 | b :: l=>by
  refine .inl ?_;unfold Lib.indexByte;have h0:=Lib.indexByte_ge l c;split
  ·simp only [List.length_cons]; omega
  ·split
   ·simp only [List.length_cons]; omega
   ·rcases indexByte_lt c l with h | h
    ·simp only [List.length_cons]; omega
    ·subst h; simp [Lib.indexByte] at *
def cutAt (s : ByteArray) : Int:=Lib.indexByte s.data.toList 10
theorem cutAt_lt {s : ByteArray} (h : 0≤cutAt s) : cutAt s < (s.size : Int):=by
 rcases indexByte_lt 10 s.data.toList with h1 | h1
 ·exact h1
 ·exfalso;rw [cutAt,h1] at h;simp [Lib.indexByte] at h
def cutLine (s : ByteArray) : ByteArray:=if 0≤cutAt s then s.extract 0 ((cutAt s).toNat+1) else s
def cutRest (s : ByteArray) : ByteArray:=if 0≤cutAt s then s.extract ((cutAt s).toNat+1) s.size else ⟨#[]⟩
theorem cutRest_lt {s : ByteArray} (h : s.size≠0) : (cutRest s).size < s.size:=by
 rw [cutRest];split
 ·rw [ByteArray.size_extract]; omega
 ·show 0 < s.size; omega
def linesG : Nat→ByteArray→List ByteArray
 | 0,_=>[]
 | n+1,s=>if s.size=0 then [] else cutLine s :: linesG n (cutRest s)
theorem linesG_more : ∀ (n : Nat) (s : ByteArray),s.size≤n→linesG n s=linesG (n+1) s
 | 0,s,h=>by rw [linesG,linesG,if_pos (by omega)]
 | n+1,s,h=>by
  rw [linesG,linesG];by_cases h0 : s.size=0
  ·rw [if_pos h0,if_pos h0]
  ·rw [if_neg h0,if_neg h0,linesG_more n _ (by have:=cutRest_lt h0; omega)]
theorem linesG_any {s : ByteArray} {n : Nat} (h : s.size≤n) : linesG n s=linesG s.size s:=by
 obtain ⟨d,rfl⟩ : ∃ d,n=s.size+d:=⟨n - s.size,by omega⟩;clear h
 induction d with
 | zero=>rfl
 | succ d ih=>rw [← Nat.add_assoc,← linesG_more _ _ (by omega)]; exact ih
def linesB (s : ByteArray) : List ByteArray:=linesG s.size s
theorem linesB_nil {s : ByteArray} (h : s.size=0) : linesB s=[]:=by rw [linesB,h,linesG]
theorem linesB_cons {s : ByteArray} (h : s.size≠0) : linesB s=cutLine s :: linesB (cutRest s):=by
 obtain ⟨n,hn⟩ : ∃ n,s.size=n+1:=⟨s.size - 1,by omega⟩;rw [linesB,hn,linesG,if_neg h,linesG_any (by have:=cutRest_lt h; omega)];rfl
theorem cut_size {s : ByteArray} (h : s.size≠0) : (cutLine s).size+(cutRest s).size=s.size∧0 < (cutLine s).size:=by
 rw [cutLine,cutRest];by_cases hc : 0≤cutAt s
 ·have:=cutAt_lt hc;rw [if_pos hc,if_pos hc,ByteArray.size_extract,ByteArray.size_extract];omega
 ·rw [if_neg hc,if_neg hc];exact ⟨rfl,by omega⟩
theorem linesB_sum : ∀ (n : Nat) (s : ByteArray),s.size≤n→((linesB s).map (fun x=>x.size+1)).sum≤2*s.size
 | n,s,h=>by
  by_cases h0 : s.size=0
  ·rw [linesB_nil h0]; simp
  ·obtain ⟨h1,h2⟩:=cut_size h0
   cases n with
   | zero=>omega
   | succ n =>
    have:=linesB_sum n (cutRest s) (by omega);rw [linesB_cons h0,List.map_cons,List.sum_cons];omega
def barsF (o : ByteArray) (ls : List ByteArray) : ByteArray:=ls.foldl (fun o x=>o ++ (⟨#[124]⟩ ++ x)) o
theorem barsF_size : ∀ (ls : List ByteArray) (o : ByteArray),(barsF o ls).size=o.size+(ls.map (fun x=>x.size+1)).sum
 | [],o=>by simp [barsF]
 | x :: ls,o=>by
  have h:=barsF_size ls (o ++ (⟨#[124]⟩ ++ x));rw [barsF,List.foldl_cons];rw [barsF] at h;rw [h,ByteArray.size_append,ByteArray.size_append,List.map_cons,List.sum_cons];have : (⟨#[124]⟩ : ByteArray).size=1:=rfl;omega
theorem barsF_snoc (o : ByteArray) (ls : List ByteArray) (x : ByteArray) : barsF o (ls ++ [x])=barsF o ls ++ (⟨#[124]⟩ ++ x):=by rw [barsF,List.foldl_append]; rfl
theorem barsF_prefix {s o : ByteArray} {ls : List ByteArray} (h : ls <+: linesB s) : (barsF o ls).size≤o.size+2*s.size:=by
 obtain ⟨r,hr⟩:=h;have h1:=linesB_sum s.size s (Nat.le_refl _);rw [← hr,List.map_append,List.sum_append] at h1;rw [barsF_size];omega
def boxLen (W : World) (B : Nat) : Nat:=match W.cell? ⟨B,0,none⟩ with | some (.string x)=>x.size | _=>0
theorem boxLen_of {W : World} {B : Nat} {t : TypeId} {x : ByteArray} (h : Boxed W B t (.string x)) : boxLen W B=x.size:=by rw [boxLen,h.cell]

set_option maxRecDepth 100000 in
set_option maxHeartbeats 2000000 in
theorem lines1_box (s : ByteArray) (hs : s.size≤1000000) (B : Nat) : SeqBox Tryz.prog 263 #[.pointer (some ⟨B,0,none⟩)] (fun x : ByteArray=>#[.string x]) B 9 (.string s) (linesB s):=by
 intro l J W hB hJB hJd hY h0;refine callsIn_of_wp Tryz.func263 rfl trivial ?_ rfl;simp only [Tryz.ntmps263,List.size_toArray,List.length_cons,List.length_nil,Nat.reduceAdd,Nat.reduceSub,Array.replicate_succ,Array.replicate_zero,List.push_toArray,List.append_toArray,List.nil_append,List.cons_append]
 gi_wp2
 gi_loopw [3] (fun _ wr=>∃ (pre : List ByteArray) (rest : ByteArray),linesB s=pre ++ linesB rest∧rest.size≤1000000∧Boxed wr B 9 (.string rest)∧J pre wr) (fun _ wr=>boxLen wr B)
 case atStart=>exact ⟨[],s,rfl,hs,hB,h0⟩
 case round =>
  obtain ⟨pre,rest,hl,hz,hb,hj⟩:=hrel;have HB:=Lib.hid hb;have HJ:=Lib.hid hj;have HL:=Lib.hid hl;have q0:=hb.cell;have q1:=hb.frozen;clear hj hl hb hB h0;by_cases h0 : rest.size=0
  ·have hd : decide (0 < rest.size)=false:=decide_eq_false (by omega)
   gi_wp2
   go_end0
   exact ⟨⟨_,rfl⟩,by rw [HL.out,linesB_nil h0,List.append_nil]; exact HJ.out⟩
  ·have hd : decide (0 < rest.size)=true:=decide_eq_true (by omega);have HZ:=Lib.hid h0;clear h0
   gi_wp2_with fail
   refine ⟨trivial,rfl,(callsIn_wide.2 (Tryz.strings_IndexByte rest 10 _)).mono ?_⟩;rintro e w' ⟨rfl,rfl⟩;rw [show Lib.indexByte rest.data.toList (Int.toNat 10).toUInt8=cutAt rest from rfl];have hge : -1≤cutAt rest:=Lib.indexByte_ge _ _;by_cases hc : 0≤cutAt rest
   ·obtain ⟨i,hi⟩:=Int.eq_ofNat_of_zero_le hc;have hlt:=cutAt_lt hc;have HI:=Lib.hid hi;rw [hi] at hlt ⊢;have hd2 : decide ((0 : Int)≤((i : Nat) : Int))=true:=decide_eq_true (by omega);(have c1 : (0 : Int)≤(i : Int)+1:=by omega);(have c2 : (i : Int)+1≤(rest.size : Int):=by omega);clear hi hc hge;have hj2:=hJd _ _ (hJB pre w' (.string (rest.extract (i+1) rest.size)) HJ.out);have hb2 : Boxed (w'.setCell ⟨B,0,none⟩ (.string (rest.extract (i+1) rest.size))).drew B 9 (.string (rest.extract (i+1) rest.size)):=HB.out.set _;obtain ⟨fn,tmps,assign,body,hy,hR⟩:=hY pre (rest.extract 0 (i+1)) _ ⟨linesB (cutRest rest),by rw [HL.out,linesB_cons HZ.out,cutLine,HI.out,if_pos (by omega)]; simp only [Int.toNat_natCast,List.append_assoc,List.singleton_append]⟩ hj2;clear hj2
    gi_wp2_with fail
    gi_region
    gi_wp2_with fail
    refine ⟨rfl,hR.mono ?_⟩;rintro e W3 ⟨rfl,hj3,hk3⟩
    gi_wp2_with fail
    go_roundw
    case rel=>exact ⟨_,_,by rw [HL.out,linesB_cons HZ.out,cutLine,cutRest,HI.out,if_pos (by omega),if_pos (by omega)]; simp only [Int.toNat_natCast,List.append_assoc,List.singleton_append],by rw [ByteArray.size_extract]; omega,hk3.trans hb2,hj3⟩
    case measure=>rw [boxLen_of (show Boxed W3 B 9 _ from hk3.trans hb2),boxLen_of HB.out,ByteArray.size_extract]; omega
   ·have hd2 : decide ((0 : Int)≤cutAt rest)=false:=decide_eq_false hc;have hj2:=hJB pre w' (.string ⟨#[]⟩) HJ.out;have hb2 : Boxed (w'.setCell ⟨B,0,none⟩ (.string ⟨#[]⟩)) B 9 (.string ⟨#[]⟩):=HB.out.set _;obtain ⟨fn,tmps,assign,body,hy,hR⟩:=hY pre rest _ ⟨linesB (cutRest rest),by rw [HL.out,linesB_cons HZ.out,cutLine,if_neg hc]; simp only [List.append_assoc,List.singleton_append]⟩ hj2;have HC:=Lib.hid hc;clear hj2 hc
    gi_wp2_with fail
    refine ⟨rfl,hR.mono ?_⟩;rintro e W3 ⟨rfl,hj3,hk3⟩
    gi_wp2_with fail
    go_roundw
    case rel=>exact ⟨_,_,by rw [HL.out,linesB_cons HZ.out,cutLine,cutRest,if_neg (show ¬ 0≤cutAt rest by have:=HC.out; omega),if_neg (show ¬ 0≤cutAt rest by have:=HC.out; omega)]; simp only [List.append_assoc,List.singleton_append],by show 0≤1000000; omega,hk3.trans hb2,hj3⟩
    case measure=>rw [boxLen_of (show Boxed W3 B 9 _ from hk3.trans hb2),boxLen_of HB.out]; have:=HZ.out; show 0 < rest.size; omega
open Go.RowKit Go.Shelf
attribute [local go_sem] Oper.semAt_some

def catR (a b : ByteArray) : ByteArray:=a ++ b
theorem cat_runR (P : Program) (a b : ByteArray) (h : a.size+b.size≤9223372036854775807) : ∃ t : ByteArray,t=catR a b∧t.size=a.size+b.size∧∀ wx : World,(Op.stringOp .add a b).run P wx=.ok (.string t) wx :=
 ⟨_,rfl,ByteArray.size_append,fun wx=>run_string_add_sum wx a b h⟩
def litScore : ByteArray:=⟨#[115,99,111,114,101,32]⟩
def litChoice : ByteArray:=⟨#[99,104,111,105,99,101,32]⟩
def litWords : ByteArray:=⟨#[119,111,114,100,115,32]⟩
def litSp : ByteArray:=⟨#[32]⟩
def litNl : ByteArray:=⟨#[10]⟩
def itoaB (z : Int) : ByteArray:=⟨(Lib.itoa z).toArray⟩
noncomputable def lineA (o : ByteArray) (x : Ans4) : ByteArray :=
 open Classical in
 if x.option≠⟨#[]⟩ then catR o (catR (catR (catR (catR litChoice x.question) litSp) x.option) litNl)
 else if x.words≠⟨#[]⟩ then barsF (catR o (catR (catR (catR (catR litWords x.question) litSp) (itoaB (Lib.countByte x.words.data.toList 10))) litNl)) (linesB x.words)
 else catR o (catR (catR (catR (catR litScore x.question) litSp) (itoaB x.number)) litNl)
noncomputable def linesF (ys : List Ans4) : ByteArray:=ys.foldl lineA ⟨#[]⟩
theorem linesF_succ {ys : List Ans4} {k : Nat} {y : Ans4} (h : ys.take (k+1)=ys.take k ++ [y]) : linesF (ys.take (k+1))=lineA (linesF (ys.take k)) y:=by
 rw [h,linesF,List.foldl_append]; rfl
theorem empty_toList {s : ByteArray} (h : s.toList=[]) : s=⟨#[]⟩:=by
 rw [tl_data] at h;exact ByteArray.ext (Array.eq_empty_of_size_eq_zero (by rw [← Array.length_toList,h]; rfl))
theorem lines_any (s : ByteArray) (w : World) : Calls Tryz.prog 194 #[.string s] w fun e w'=>e=.returned (.func (.func 263) #[] #[.pointer (some ⟨w.heap.size,0,none⟩)])∧w'=w.alloc (.cells #[.string s] 9):=by
 (go_enter Tryz.func194,Tryz.ntmps194);(go_wp2_with fail);go_ret;exact ⟨rfl,rfl⟩

set_option maxRecDepth 100000 in
set_option maxHeartbeats 6400000 in
theorem answerLines_any (a : Option Addr) (l c : Nat) (ys : List Ans4) (w : World) (hs : Sl RAns 4 (fun _=>True) w a l ys) (hl : l≤1000) (hp : Pow w) :
  Calls Tryz.prog 128 #[.slice a l c] w fun e w'=>e=.returned (.string (linesF ys))∧All w w':=by
 have HLEN:=Lib.hid hs.len;have HS:=Lib.hid (fun (wx : World) (k : All w wx)=>hs.keep RAns.ok k);have HP:=Lib.hid (fun (wx : World) (k : All w wx)=>hp.keep k);clear hs hp;refine (callsIn_wide (n:=0)).1 (callsIn_of_wp_marks Tryz.func128 rfl trivial ((wpIn_wide (n:=0)).2 ?_) rfl);simp only [Tryz.ntmps128,List.size_toArray,List.length_cons,List.length_nil,Nat.reduceAdd,Nat.reduceSub,Array.replicate_succ,Array.replicate_zero,List.push_toArray,List.append_toArray,List.nil_append,List.cons_append];(go_wp2_with fail);refine wp_loop (fun a' w'=>∃ (k : Nat) (ds : List Deferred) (o : ByteArray) (u5 u6 u9 u10 u11 u12 u13 u14 u15 u16 u17 u18 u19 u20 u21 u22 u23 u24 u25 u26 u27 u28 u29 u30 u31 u32 u33 u34 u35 u36 u37 u38 u39 u40 u41 u42 u43 u44 u45 u46 u47 u48 u49 u50 u51 u52 u53 u54 u55 u56 u57 u58 u59 u60 u61 u62 : Value),k≤l∧u9=.int .i64 (k : Int)∧o=linesF (ys.take k)∧o.size≤5000000*k∧Boxed w' w.heap.size 9 (.string o)∧All w w'∧Marks (w.heap.size+1) ds w'∧a'={ tmps:=#[.slice a l c,undef,.string ⟨#[]⟩,.pointer (some ⟨w.heap.size,0,none⟩),undef,u5,u6,.slice a l c,.int .i64 l,u9,u10,u11,u12,u13,u14,u15,u16,u17,u18,u19,u20,u21,u22,u23,u24,u25,u26,u27,u28,u29,u30,u31,u32,u33,u34,u35,u36,u37,u38,u39,u40,u41,u42,u43,u44,u45,u46,u47,u48,u49,u50,u51,u52,u53,u54,u55,u56,u57,u58,u59,u60,u61,u62,undef],defers:=ds }) (fun a' _=>l - (intOf (a'.tmps.getD 9 undef)).toNat) ?_ ?_
 ·exact ⟨0,[],⟨#[]⟩,_,_,_,_,_,_,_,_,_,_,_,_,_,_,_,_,_,_,_,_,_,_,_,_,_,_,_,_,_,_,_,_,_,_,_,_,_,_,_,_,_,_,_,_,_,_,_,_,_,_,_,_,_,_,_,_,Nat.zero_le _,rfl,rfl,by show 0≤_; omega,Boxed.new w 9 _,Kept.alloc _ _ _,Marks.nil _ _,rfl⟩
 ·rintro a' wo ⟨k,ds,o,u5,u6,u9,u10,u11,u12,u13,u14,u15,u16,u17,u18,u19,u20,u21,u22,u23,u24,u25,u26,u27,u28,u29,u30,u31,u32,u33,u34,u35,u36,u37,u38,u39,u40,u41,u42,u43,u44,u45,u46,u47,u48,u49,u50,u51,u52,u53,u54,u55,u56,u57,u58,u59,u60,u61,u62,hk,h9,ho,hoz,hbx,hall,hm,rfl⟩;subst h9;have HO:=Lib.hid ho;have HM:=Lib.hid hm;have HBX:=Lib.hid hbx;have HOZ:=Lib.hid hoz;clear ho hm hoz;by_cases hlt : k < l
  ·have hlt':=hlt;obtain ⟨b,off,⟨q,z,opt,wds⟩,ha,-,c0,c1,c2,c3,hsm,hy,htk⟩:=(HS.out wo hall).atAns hlt;subst ha;dsimp only at c0 c1 c2 c3;have HY:=Lib.hid hy;have HTK:=Lib.hid htk;obtain ⟨hz1,hz2,hz3,hz4,hz5⟩:=hsm;dsimp only at hz1 hz2 hz3 hz4 hz5;clear hy htk;have hA:=heap_at wo (.cells #[.string q,.int .i64 z,.string opt,.string wds] 143) _ rfl;have hkA : All wo (wo.alloc (.cells #[.string q,.int .i64 z,.string opt,.string wds] 143)):=Kept.alloc _ _ _;have hbA : Boxed (wo.alloc (.cells #[.string q,.int .i64 z,.string opt,.string wds] 143)) w.heap.size 9 (.string o):=hbx.alloc _;obtain ⟨ab,hab⟩ : ∃ b,b=wo.heap.size:=⟨_,rfl⟩;have HAB:=Lib.hid hab;rw [← hab] at hA;(have hob : w.heap.size < ab:=by have:=hbx.lt; omega);clear hab hbx;(go_upto_region 6 with fail);simp only [← HAB.out];generalize wo.alloc (.cells #[.string q,.int .i64 z,.string opt,.string wds] 143)=w1 at *;clear c0 c1 c2 c3;have HBX1:=Lib.hid hbA;have q0:=hbA.cell;have q1:=hbA.frozen;have c0:=cell_at (i:=0) hA rfl;have c1:=cell_at (i:=1) hA rfl;have c2:=cell_at (i:=2) hA rfl;have c3:=cell_at (i:=3) hA rfl;have hk1 : All w w1:=hall.trans hkA;have HP1:=Lib.hid (HP.out w1 hk1);have hoz:=HOZ.out;have s1 : (⟨#[32]⟩ : ByteArray).size=1:=rfl;have s2 : (⟨#[10]⟩ : ByteArray).size=1:=rfl;have s3 : (⟨#[115,99,111,114,101,32]⟩ : ByteArray).size=6:=rfl;have s4 : (⟨#[119,111,114,100,115,32]⟩ : ByteArray).size=6:=rfl;have HFIN:=Lib.hid (show ∀ (o2 : ByteArray) (ds2 : List Deferred) (W : World),o2=lineA o ⟨q,z,opt,wds⟩→o2.size≤o.size+5000000→Boxed W w.heap.size 9 (.string o2)→Kept (fun j=>j≠w.heap.size) wo W→Marks (w.heap.size+1) ds2 W→∀ v : Value,v=.int .i64 ((k : Int)+1)→k+1≤l∧v=.int .i64 ((k+1 : Nat) : Int)∧o2=linesF (ys.take (k+1))∧o2.size≤5000000*(k+1)∧Boxed W w.heap.size 9 (.string o2)∧All w W∧Marks (w.heap.size+1) ds2 W from fun o2 ds2 W h1 h2 h3 h4 h5 v hv=>⟨by omega,by rw [hv]; push_cast; rfl,by rw [linesF_succ HTK.out,← HO.out]; exact h1,by omega,h3,hall.trans2 h4 (fun i hi _=>by omega),h5⟩);have HKA:=Lib.hid hkA;have HMO:=Lib.hid (show ∀ W : World,Kept (fun j=>j≠w.heap.size) wo W→Marks (w.heap.size+1) ds W from fun W h=>HM.out.keep (fun j hj hd=>h.heap hd (by omega)));clear hall hk1 hkA;by_cases hopt : opt=⟨#[]⟩
   case neg =>
    (have h1 : opt.toList.isEmpty=false:=by rw [List.isEmpty_eq_false_iff]; intro e; exact hopt (empty_toList e));have s0 : (⟨#[99,104,111,105,99,101,32]⟩ : ByteArray).size=7:=rfl;obtain ⟨t1,ht1,hz1',r1⟩:=cat_runR Tryz.prog ⟨#[99,104,111,105,99,101,32]⟩ q (by omega);obtain ⟨t2,ht2,hz2',r2⟩:=cat_runR Tryz.prog t1 ⟨#[32]⟩ (by omega);obtain ⟨t3,ht3,hz3',r3⟩:=cat_runR Tryz.prog t2 opt (by omega);obtain ⟨t4,ht4,hz4',r4⟩:=cat_runR Tryz.prog t3 ⟨#[10]⟩ (by omega);obtain ⟨t5,ht5,hz5',r5⟩:=cat_runR Tryz.prog o t4 (by omega);have HLINE:=Lib.hid (show t5=lineA o ⟨q,z,opt,wds⟩ by rw [lineA,if_pos hopt,ht5,ht4,ht3,ht2,ht1]; rfl);have HT5:=Lib.hid (show t5.size≤o.size+5000000 by omega);clear ht1 ht2 ht3 ht4 ht5 hz1' hz2' hz3' hz4' hz5';(go_wp2_with fail);obtain ⟨g1,g2,g3,g4,g5,g6,g7⟩:=HFIN.out t5 ds _ HLINE.out HT5.out (Boxed.set _ HBX1.out) ((HKA.out.all).then_setCell ⟨w.heap.size,0,none⟩ (.string t5) (fun h=>h rfl)) (HMO.out _ ((HKA.out.all).then_setCell ⟨w.heap.size,0,none⟩ (.string t5) (fun h=>h rfl))) _ rfl;refine ⟨⟨k+1,_,_,_,_,_,_,_,_,_,_,_,_,_,_,_,_,_,_,_,_,_,_,_,_,_,_,_,_,_,_,_,_,_,_,_,_,_,_,_,_,_,_,_,_,_,_,_,_,_,_,_,_,_,_,_,_,_,_,g1,g2,g3,g4,g5,g6,g7,rfl⟩,?_⟩;show l - (intOf (.int .i64 ((k : Int)+1))).toNat < l - (intOf (.int .i64 (k : Int))).toNat
    simp only [intOf];omega
   case pos =>
    subst hopt;by_cases hwds : wds=⟨#[]⟩
    case pos =>
     subst hwds;have hi1:=itoa_size z (by omega) (by omega);obtain ⟨iz,hiz⟩ : ∃ x : ByteArray,x=⟨(Lib.itoa z).toArray⟩:=⟨_,rfl⟩;rw [← hiz] at hi1;obtain ⟨t1,ht1,hz1',r1⟩:=cat_runR Tryz.prog ⟨#[115,99,111,114,101,32]⟩ q (by omega);obtain ⟨t2,ht2,hz2',r2⟩:=cat_runR Tryz.prog t1 ⟨#[32]⟩ (by omega);obtain ⟨t3,ht3,hz3',r3⟩:=cat_runR Tryz.prog t2 iz (by omega);obtain ⟨t4,ht4,hz4',r4⟩:=cat_runR Tryz.prog t3 ⟨#[10]⟩ (by omega);obtain ⟨t5,ht5,hz5',r5⟩:=cat_runR Tryz.prog o t4 (by omega);have HLINE:=Lib.hid (show t5=lineA o ⟨q,z,⟨#[]⟩,⟨#[]⟩⟩ by rw [lineA,if_neg (by simp),if_neg (by simp),ht5,ht4,ht3,ht2,ht1,hiz]; rfl);have HT5:=Lib.hid (show t5.size≤o.size+5000000 by omega);have HIT:=Lib.hid (fun (wx : World) (kx : All w1 wx)=>(show Calls Tryz.prog 88 #[.int .i64 z] wx fun e w'=>e=.returned (.string iz)∧All wx w' from by rw [hiz]; exact itoa_any z (by omega) (by omega) wx (HP1.out.keep kx)));have HCL:=Lib.hid (fun (wx : World) (kx : All w1 wx)=>(⟨kx.heap hbA trivial,kx.heap hA trivial⟩ : wx.heap[w.heap.size]? = _∧wx.heap[ab]? = _));clear ht1 ht2 ht3 ht4 ht5 hz1' hz2' hz3' hz4' hz5' hiz hi1;(go_wp2_with fail);refine wp_region_inv 11 (by kernel_rfl) (by kernel_rfl) (by kernel_rfl) (fun _ wx=>All w1 wx)
      (DL [QIs (Value.string o),QIs (Value.pointer (some ⟨ab,0,none⟩)),QIs (Value.string q),QIs (Value.string t1),QIs (Value.string t2),QIs (Value.pointer (some ⟨ab,1,none⟩)),QIs (Value.int .i64 z),QIs (Value.string iz),QIs (Value.string t3),QIs (Value.string t4),QIs (Value.string t5)]) All
      (DL.keep (by simp only [List.forall_mem_cons,List.not_mem_nil,false_implies,implies_true,and_true]; exact ⟨QIs.stays _,QIs.stays _,QIs.stays _,QIs.stays _,QIs.stays _,QIs.stays _,QIs.stays _,QIs.stays _,QIs.stays _,QIs.stays _,QIs.stays _⟩)) ?_ ?_ ?_
     ·exact Kept.drew _ _
     ·intro i o t ho hd hi k' a' wx hk' hg hdf hts hoth hdeps;have hszx:=hg.size;(have hz : i=0∨i=1∨i=2∨i=3∨i=4∨i=5∨i=6∨i=7∨i=8∨i=9∨i=10:=by omega);rcases hz with rfl | rfl | rfl | rfl | rfl | rfl | rfl | rfl | rfl | rfl | rfl
      ·obtain rfl:=Option.some.inj ho;obtain rfl:=Option.some.inj hd;have e0 : a'.tmps.getD 3 undef=Value.pointer (some ⟨w.heap.size,0,none⟩):=tmp_of ((hoth 3 (by decide)).trans rfl);have c9:=cell_at (i:=0) (HCL.out wx hg).1 rfl;clear hoth hdeps hdf hts ho;refine wp_via (fun K' hK=>?_);have HK:=Lib.hid hK;clear hK;go_simp;exact HK.out _ _ ⟨_,rfl,hg,Kept.refl _ _,rfl⟩
      ·obtain rfl:=Option.some.inj ho;obtain rfl:=Option.some.inj hd;have e0 : a'.tmps.getD 5 undef=Value.pointer (some ⟨ab,0,none⟩):=tmp_of ((hoth 5 (by decide)).trans rfl);clear hoth hdeps hdf hts ho;refine wp_via (fun K' hK=>?_);have HK:=Lib.hid hK;clear hK;go_simp;exact HK.out _ _ ⟨_,rfl,hg,Kept.refl _ _,rfl⟩
      ·obtain rfl:=Option.some.inj ho;obtain rfl:=Option.some.inj hd;have e0 : a'.tmps.getD 14 undef=Value.pointer (some ⟨ab,0,none⟩):=hdeps 1 (by decide) 14 rfl;have c9:=cell_at (i:=0) (HCL.out wx hg).2 rfl;clear hoth hdeps hdf hts ho;refine wp_via (fun K' hK=>?_);have HK:=Lib.hid hK;clear hK;go_simp;exact HK.out _ _ ⟨_,rfl,hg,Kept.refl _ _,rfl⟩
      ·obtain rfl:=Option.some.inj ho;obtain rfl:=Option.some.inj hd;have e0 : a'.tmps.getD 15 undef=Value.string q:=hdeps 2 (by decide) 15 rfl;clear hoth hdeps hdf hts ho;refine wp_via (fun K' hK=>?_);have HK:=Lib.hid hK;clear hK;go_simp;exact HK.out _ _ ⟨_,rfl,hg,Kept.refl _ _,rfl⟩
      ·obtain rfl:=Option.some.inj ho;obtain rfl:=Option.some.inj hd;have e0 : a'.tmps.getD 16 undef=Value.string t1:=hdeps 3 (by decide) 16 rfl;clear hoth hdeps hdf hts ho;refine wp_via (fun K' hK=>?_);have HK:=Lib.hid hK;clear hK;go_simp;exact HK.out _ _ ⟨_,rfl,hg,Kept.refl _ _,rfl⟩
      ·obtain rfl:=Option.some.inj ho;obtain rfl:=Option.some.inj hd;have e0 : a'.tmps.getD 5 undef=Value.pointer (some ⟨ab,0,none⟩):=tmp_of ((hoth 5 (by decide)).trans rfl);clear hoth hdeps hdf hts ho;refine wp_via (fun K' hK=>?_);have HK:=Lib.hid hK;clear hK;go_simp;exact HK.out _ _ ⟨_,rfl,hg,Kept.refl _ _,rfl⟩
      ·obtain rfl:=Option.some.inj ho;obtain rfl:=Option.some.inj hd;have e0 : a'.tmps.getD 18 undef=Value.pointer (some ⟨ab,1,none⟩):=hdeps 5 (by decide) 18 rfl;have c9:=cell_at (i:=1) (HCL.out wx hg).2 rfl;clear hoth hdeps hdf hts ho;refine wp_via (fun K' hK=>?_);have HK:=Lib.hid hK;clear hK;go_simp;exact HK.out _ _ ⟨_,rfl,hg,Kept.refl _ _,rfl⟩
      ·obtain rfl:=Option.some.inj ho;obtain rfl:=Option.some.inj hd;have e0 : a'.tmps.getD 19 undef=Value.int .i64 z:=hdeps 6 (by decide) 19 rfl;clear hoth hdeps hdf hts ho;refine wp_via (fun K' hK=>?_);have HK:=Lib.hid hK;clear hK;go_simp;refine (HIT.out wx hg).mono ?_;rintro e w4 ⟨rfl,hw4⟩;exact HK.out _ _ ⟨_,rfl,hg.trans hw4,hw4,rfl⟩
      ·obtain rfl:=Option.some.inj ho;obtain rfl:=Option.some.inj hd;have e0 : a'.tmps.getD 17 undef=Value.string t2:=hdeps 4 (by decide) 17 rfl;have e1 : a'.tmps.getD 20 undef=Value.string iz:=hdeps 7 (by decide) 20 rfl;clear hoth hdeps hdf hts ho;refine wp_via (fun K' hK=>?_);have HK:=Lib.hid hK;clear hK;go_simp;exact HK.out _ _ ⟨_,rfl,hg,Kept.refl _ _,rfl⟩
      ·obtain rfl:=Option.some.inj ho;obtain rfl:=Option.some.inj hd;have e0 : a'.tmps.getD 21 undef=Value.string t3:=hdeps 8 (by decide) 21 rfl;clear hoth hdeps hdf hts ho;refine wp_via (fun K' hK=>?_);have HK:=Lib.hid hK;clear hK;go_simp;exact HK.out _ _ ⟨_,rfl,hg,Kept.refl _ _,rfl⟩
      ·obtain rfl:=Option.some.inj ho;obtain rfl:=Option.some.inj hd;have e0 : a'.tmps.getD 13 undef=Value.string o:=hdeps 0 (by decide) 13 rfl;have e1 : a'.tmps.getD 22 undef=Value.string t4:=hdeps 9 (by decide) 22 rfl;clear hoth hdeps hdf hts ho;refine wp_via (fun K' hK=>?_);have HK:=Lib.hid hK;clear hK;go_simp;exact HK.out _ _ ⟨_,rfl,hg,Kept.refl _ _,rfl⟩
     ·intro wx f hg hd;have e9 : f 23=Value.string t5:=hd 10 23 (by decide) rfl;rw [show dsts _ 11=[13,14,15,16,17,18,19,20,21,22,23] from by kernel_rfl];simp only [List.map_cons,List.map_nil,puts,Act.put,e9,List.drop_succ_cons,List.drop_zero];generalize f 13=f13;generalize f 14=f14;generalize f 15=f15;generalize f 16=f16;generalize f 17=f17;generalize f 18=f18;generalize f 19=f19;generalize f 20=f20;generalize f 21=f21;generalize f 22=f22;clear hd e9;simp only [List.setIfInBounds_toArray,List.set_cons_zero,List.set_cons_succ];obtain ⟨gb,ga⟩:=HCL.out wx hg;have gq0:=Boxed.cell gb;have gq1:=Boxed.frozen gb;(go_wp2_with fail);obtain ⟨g1,g2,g3,g4,g5,g6,g7⟩:=HFIN.out t5 ds _ HLINE.out HT5.out (Boxed.set _ gb) ((HKA.out.trans hg).all.then_setCell ⟨w.heap.size,0,none⟩ (.string t5) (fun h=>h rfl)) (HMO.out _ ((HKA.out.trans hg).all.then_setCell ⟨w.heap.size,0,none⟩ (.string t5) (fun h=>h rfl))) _ rfl;refine ⟨⟨k+1,_,_,_,_,_,_,_,_,_,_,_,_,_,_,_,_,_,_,_,_,_,_,_,_,_,_,_,_,_,_,_,_,_,_,_,_,_,_,_,_,_,_,_,_,_,_,_,_,_,_,_,_,_,_,_,_,_,_,g1,g2,g3,g4,g5,g6,g7,rfl⟩,?_⟩;show l - (intOf (.int .i64 ((k : Int)+1))).toNat < l - (intOf (.int .i64 (k : Int))).toNat
      simp only [intOf];omega
    case neg =>
     (have h1 : wds.toList.isEmpty=false:=by rw [List.isEmpty_eq_false_iff]; intro e; exact hwds (empty_toList e));have hi1:=itoa_size (Lib.countByte wds.data.toList 10) (by omega) (by have:=List.count_le_length (a:=(10 : UInt8)) (l:=wds.data.toList); have : wds.data.toList.length=wds.size:=rfl; unfold Lib.countByte; omega);obtain ⟨cn,hcn⟩ : ∃ x : Int,x=(Lib.countByte wds.data.toList 10 : Nat):=⟨_,rfl⟩;(have hcn1 : 0≤cn∧cn≤1000000:=by have:=List.count_le_length (a:=(10 : UInt8)) (l:=wds.data.toList); have : wds.data.toList.length=wds.size:=rfl; unfold Lib.countByte at hcn; omega);rw [← hcn] at hi1;obtain ⟨iz,hiz⟩ : ∃ x : ByteArray,x=⟨(Lib.itoa cn).toArray⟩:=⟨_,rfl⟩;rw [← hiz] at hi1;obtain ⟨t1,ht1,hz1',r1⟩:=cat_runR Tryz.prog ⟨#[119,111,114,100,115,32]⟩ q (by omega);obtain ⟨t2,ht2,hz2',r2⟩:=cat_runR Tryz.prog t1 ⟨#[32]⟩ (by omega);obtain ⟨t3,ht3,hz3',r3⟩:=cat_runR Tryz.prog t2 iz (by omega);obtain ⟨t4,ht4,hz4',r4⟩:=cat_runR Tryz.prog t3 ⟨#[10]⟩ (by omega);obtain ⟨t5,ht5,hz5',r5⟩:=cat_runR Tryz.prog o t4 (by omega);have HLINE:=Lib.hid (show barsF t5 (linesB wds)=lineA o ⟨q,z,⟨#[]⟩,wds⟩ by rw [lineA,if_neg (by simp),if_pos hwds,ht5,ht4,ht3,ht2,ht1,hiz,hcn]; rfl);have HT5:=Lib.hid (show t5.size≤o.size+1000100 by omega);have HIT:=Lib.hid (fun (wx : World) (kx : All w1 wx)=>(show Calls Tryz.prog 88 #[.int .i64 cn] wx fun e w'=>e=.returned (.string iz)∧All wx w' from by rw [hiz]; exact itoa_any cn (by omega) (by omega) wx (HP1.out.keep kx)));have HCT:=Lib.hid (fun (wx : World)=>(show Calls Tryz.prog 193 #[.string wds,.string ⟨#[10]⟩] wx fun e w'=>e=.returned (.int .i64 cn)∧w'=wx from by rw [hcn]; exact Tryz.strings_Count_one wds 10 wx));have HCL:=Lib.hid (fun (wx : World) (kx : All w1 wx)=>(⟨kx.heap hbA trivial,kx.heap hA trivial⟩ : wx.heap[w.heap.size]? = _∧wx.heap[ab]? = _));clear ht1 ht2 ht3 ht4 ht5 hz1' hz2' hz3' hz4' hz5' hiz hi1 hcn;(go_wp2_with fail);refine wp_region_inv 12 (by kernel_rfl) (by kernel_rfl) (by kernel_rfl) (fun _ wx=>All w1 wx)
      (DL [QIs (Value.string o),QIs (Value.pointer (some ⟨ab,0,none⟩)),QIs (Value.string q),QIs (Value.string t1),QIs (Value.string t2),QIs (Value.pointer (some ⟨ab,3,none⟩)),QIs (Value.string wds),QIs (Value.int .i64 cn),QIs (Value.string iz),QIs (Value.string t3),QIs (Value.string t4),QIs (Value.string t5)]) All
      (DL.keep (by simp only [List.forall_mem_cons,List.not_mem_nil,false_implies,implies_true,and_true]; exact ⟨QIs.stays _,QIs.stays _,QIs.stays _,QIs.stays _,QIs.stays _,QIs.stays _,QIs.stays _,QIs.stays _,QIs.stays _,QIs.stays _,QIs.stays _,QIs.stays _⟩)) ?_ ?_ ?_
     ·exact Kept.drew _ _
     ·intro i o t ho hd hi k' a' wx hk' hg hdf hts hoth hdeps;have hszx:=hg.size;(have hz : i=0∨i=1∨i=2∨i=3∨i=4∨i=5∨i=6∨i=7∨i=8∨i=9∨i=10∨i=11:=by omega);rcases hz with rfl | rfl | rfl | rfl | rfl | rfl | rfl | rfl | rfl | rfl | rfl | rfl
      ·obtain rfl:=Option.some.inj ho;obtain rfl:=Option.some.inj hd;have e0 : a'.tmps.getD 3 undef=Value.pointer (some ⟨w.heap.size,0,none⟩):=tmp_of ((hoth 3 (by decide)).trans rfl);have c9:=cell_at (i:=0) (HCL.out wx hg).1 rfl;clear hoth hdeps hdf hts ho;refine wp_via (fun K' hK=>?_);have HK:=Lib.hid hK;clear hK;go_simp;exact HK.out _ _ ⟨_,rfl,hg,Kept.refl _ _,rfl⟩
      ·obtain rfl:=Option.some.inj ho;obtain rfl:=Option.some.inj hd;have e0 : a'.tmps.getD 5 undef=Value.pointer (some ⟨ab,0,none⟩):=tmp_of ((hoth 5 (by decide)).trans rfl);clear hoth hdeps hdf hts ho;refine wp_via (fun K' hK=>?_);have HK:=Lib.hid hK;clear hK;go_simp;exact HK.out _ _ ⟨_,rfl,hg,Kept.refl _ _,rfl⟩
      ·obtain rfl:=Option.some.inj ho;obtain rfl:=Option.some.inj hd;have e0 : a'.tmps.getD 43 undef=Value.pointer (some ⟨ab,0,none⟩):=hdeps 1 (by decide) 43 rfl;have c9:=cell_at (i:=0) (HCL.out wx hg).2 rfl;clear hoth hdeps hdf hts ho;refine wp_via (fun K' hK=>?_);have HK:=Lib.hid hK;clear hK;go_simp;exact HK.out _ _ ⟨_,rfl,hg,Kept.refl _ _,rfl⟩
      ·obtain rfl:=Option.some.inj ho;obtain rfl:=Option.some.inj hd;have e0 : a'.tmps.getD 44 undef=Value.string q:=hdeps 2 (by decide) 44 rfl;clear hoth hdeps hdf hts ho;refine wp_via (fun K' hK=>?_);have HK:=Lib.hid hK;clear hK;go_simp;exact HK.out _ _ ⟨_,rfl,hg,Kept.refl _ _,rfl⟩
      ·obtain rfl:=Option.some.inj ho;obtain rfl:=Option.some.inj hd;have e0 : a'.tmps.getD 45 undef=Value.string t1:=hdeps 3 (by decide) 45 rfl;clear hoth hdeps hdf hts ho;refine wp_via (fun K' hK=>?_);have HK:=Lib.hid hK;clear hK;go_simp;exact HK.out _ _ ⟨_,rfl,hg,Kept.refl _ _,rfl⟩
      ·obtain rfl:=Option.some.inj ho;obtain rfl:=Option.some.inj hd;have e0 : a'.tmps.getD 5 undef=Value.pointer (some ⟨ab,0,none⟩):=tmp_of ((hoth 5 (by decide)).trans rfl);clear hoth hdeps hdf hts ho;refine wp_via (fun K' hK=>?_);have HK:=Lib.hid hK;clear hK;go_simp;exact HK.out _ _ ⟨_,rfl,hg,Kept.refl _ _,rfl⟩
      ·obtain rfl:=Option.some.inj ho;obtain rfl:=Option.some.inj hd;have e0 : a'.tmps.getD 47 undef=Value.pointer (some ⟨ab,3,none⟩):=hdeps 5 (by decide) 47 rfl;have c9:=cell_at (i:=3) (HCL.out wx hg).2 rfl;clear hoth hdeps hdf hts ho;refine wp_via (fun K' hK=>?_);have HK:=Lib.hid hK;clear hK;go_simp;exact HK.out _ _ ⟨_,rfl,hg,Kept.refl _ _,rfl⟩
      ·obtain rfl:=Option.some.inj ho;obtain rfl:=Option.some.inj hd;have e0 : a'.tmps.getD 48 undef=Value.string wds:=hdeps 6 (by decide) 48 rfl;clear hoth hdeps hdf hts ho;refine wp_via (fun K' hK=>?_);have HK:=Lib.hid hK;clear hK;go_simp;refine (HCT.out wx).mono ?_;rintro e w4 ⟨rfl,rfl⟩;exact HK.out _ _ ⟨_,rfl,hg,Kept.refl _ _,rfl⟩
      ·obtain rfl:=Option.some.inj ho;obtain rfl:=Option.some.inj hd;have e0 : a'.tmps.getD 49 undef=Value.int .i64 cn:=hdeps 7 (by decide) 49 rfl;clear hoth hdeps hdf hts ho;refine wp_via (fun K' hK=>?_);have HK:=Lib.hid hK;clear hK;go_simp;refine (HIT.out wx hg).mono ?_;rintro e w4 ⟨rfl,hw4⟩;exact HK.out _ _ ⟨_,rfl,hg.trans hw4,hw4,rfl⟩
      ·obtain rfl:=Option.some.inj ho;obtain rfl:=Option.some.inj hd;have e0 : a'.tmps.getD 46 undef=Value.string t2:=hdeps 4 (by decide) 46 rfl;have e1 : a'.tmps.getD 50 undef=Value.string iz:=hdeps 8 (by decide) 50 rfl;clear hoth hdeps hdf hts ho;refine wp_via (fun K' hK=>?_);have HK:=Lib.hid hK;clear hK;go_simp;exact HK.out _ _ ⟨_,rfl,hg,Kept.refl _ _,rfl⟩
      ·obtain rfl:=Option.some.inj ho;obtain rfl:=Option.some.inj hd;have e0 : a'.tmps.getD 51 undef=Value.string t3:=hdeps 9 (by decide) 51 rfl;clear hoth hdeps hdf hts ho;refine wp_via (fun K' hK=>?_);have HK:=Lib.hid hK;clear hK;go_simp;exact HK.out _ _ ⟨_,rfl,hg,Kept.refl _ _,rfl⟩
      ·obtain rfl:=Option.some.inj ho;obtain rfl:=Option.some.inj hd;have e0 : a'.tmps.getD 42 undef=Value.string o:=hdeps 0 (by decide) 42 rfl;have e1 : a'.tmps.getD 52 undef=Value.string t4:=hdeps 10 (by decide) 52 rfl;clear hoth hdeps hdf hts ho;refine wp_via (fun K' hK=>?_);have HK:=Lib.hid hK;clear hK;go_simp;exact HK.out _ _ ⟨_,rfl,hg,Kept.refl _ _,rfl⟩
     ·intro wx f hg hd;have e9 : f 53=Value.string t5:=hd 11 53 (by decide) rfl;rw [show dsts _ 12=[42,43,44,45,46,47,48,49,50,51,52,53] from by kernel_rfl];simp only [List.map_cons,List.map_nil,puts,Act.put,e9,List.drop_succ_cons,List.drop_zero];generalize f 42=f42;generalize f 43=f43;generalize f 44=f44;generalize f 45=f45;generalize f 46=f46;generalize f 47=f47;generalize f 48=f48;generalize f 49=f49;generalize f 50=f50;generalize f 51=f51;generalize f 52=f52;clear hd e9;simp only [List.setIfInBounds_toArray,List.set_cons_zero,List.set_cons_succ];obtain ⟨gb,ga⟩:=HCL.out wx hg;have gq0:=Boxed.cell gb;have gq1:=Boxed.frozen gb;have gb2:=Boxed.set (.string t5) gb;have gk2:=((HKA.out.trans hg).all.then_setCell ⟨w.heap.size,0,none⟩ (.string t5) (fun h=>h rfl) : Kept (fun j=>j≠w.heap.size) wo _);have ga2 : (wx.setCell ⟨w.heap.size,0,none⟩ (.string t5)).heap[ab]? = _:=(Below.heap_setCell wx ⟨w.heap.size,0,none⟩ _ ab (by dsimp only; omega)).trans ga;have gc3:=cell_at (i:=3) ga2 rfl;clear ga2;(go_wp2_with (go_at_call 194; refine (lines_any _ _).mono ?_; rintro e w' ⟨rfl,rfl⟩));(have hsz : (wx.setCell ⟨w.heap.size,0,none⟩ (.string t5)).heap.size=wx.heap.size:=by simp);generalize wx.setCell ⟨w.heap.size,0,none⟩ (.string t5)=w2 at *;have gb3 : Boxed (w2.alloc (.cells #[.string wds] 9)) w.heap.size 9 (.string t5):=gb2.alloc _;have gk3:=gk2.then_alloc (.cells #[.string wds] 9);have gB : Boxed (w2.alloc (.cells #[.string wds] 9)) w2.heap.size 9 (.string wds):=Boxed.new _ _ _;rw [hsz] at gB;obtain ⟨B,hB⟩ : ∃ x,x=wx.heap.size:=⟨_,rfl⟩;(have hoB : w.heap.size < B:=by have:=gb2.lt; omega);(have hBw : wo.heap.size≤B:=by have:=gk2.size; omega);rw [← hB] at gB ⊢;clear gb2 gk2 gc3 hB hsz;generalize w2.alloc (.cells #[.string wds] 9)=w3 at *;have hB3:=gB.lt;refine wp_rangeFunc_box (gf:=263) (lb:=#[.pointer (some ⟨B,0,none⟩)]) rfl (enters_of Tryz.func263 (by kernel_rfl) rfl) (lines1_box wds hz3 B) gB (fun _=>rfl)
       (fun pre W=>Boxed W w.heap.size 9 (.string (barsF t5 pre))∧Kept (fun j=>j≠w.heap.size∧j≠B) w3 W) ?_ ?_ ?_ ⟨gb3,Kept.refl _ _⟩ ?a1 ?assign ?body ?done
      ·rintro s W W' row ⟨h1,h2⟩ hg hr;exact ⟨h1.kept hg (fun e=>by have:=(hr w.heap.size e.symm).1; omega),h2.grown hg (fun j hj=>.inl (hr j hj).1)⟩
      ·rintro pre W u ⟨h1,h2⟩;exact ⟨h1.other (by omega) u,h2.then_setCell _ _ (fun h=>h.2 rfl)⟩
      ·rintro pre W ⟨h1,h2⟩;exact ⟨h1,h2.then_drew⟩
      case assign =>
       intro l' x W K hK
       gi_wp2
       exact hK
      case body =>
       rintro l' pre x W hpx ⟨h1,h2⟩;have b1:=barsF_prefix (o:=t5) hpx;rw [barsF_snoc,ByteArray.size_append,ByteArray.size_append] at b1;have HT:=HT5.out;have s5 : (⟨#[124]⟩ : ByteArray).size=1:=rfl;(have b2 : ¬ 9223372036854775807 < (barsF t5 pre).size+(1+x.size):=by omega);(have b3 : ¬ 9223372036854775807 < 1+x.size:=by omega);have v0:=h1.cell;have v1:=h1.frozen
       gi_wp2
       exact ⟨(KeepsOthers.setCell _ _ _).from _,Below.heap_setCell _ _ _ _ (by dsimp only; omega),by rw [barsF_snoc]; exact Boxed.set _ h1,h2.then_setCell _ _ (fun h=>h.1 rfl)⟩
      case done =>
       rintro D W hD ⟨h1,h2⟩ hKD;have b1:=barsF_prefix (o:=t5) (List.prefix_refl (linesB wds));have hm3:=HMO.out w3 gk3;have hm4:=hm3.cons (D:=D) (W':=W) hD (fun j hj hd=>h2.heap hd ⟨by omega,fun e=>by subst e; rw [show w3.heap[j]? = _ from gB] at hd; cases hd⟩) (by omega) hKD;have HT:=HT5.out;(go_wp2_with fail);obtain ⟨g1,g2,g3,g4,g5,g6,g7⟩:=HFIN.out (barsF t5 (linesB wds)) ({ target:=.collected D,args:=#[] } :: ds) _ HLINE.out (by omega) h1 (gk3.trans2 h2 (fun j hj hne=>⟨hne,fun e=>by have:=gk3.size; omega⟩)) hm4 _ rfl;refine ⟨⟨k+1,_,_,_,_,_,_,_,_,_,_,_,_,_,_,_,_,_,_,_,_,_,_,_,_,_,_,_,_,_,_,_,_,_,_,_,_,_,_,_,_,_,_,_,_,_,_,_,_,_,_,_,_,_,_,_,_,_,_,g1,g2,g3,g4,g5,g6,g7,rfl⟩,?_⟩;show l - (intOf (.int .i64 ((k : Int)+1))).toNat < l - (intOf (.int .i64 (k : Int))).toNat
       simp only [intOf];omega
  ·(have hdl : decide ((k : Int) < (l : Int))=false:=by simp; omega);(have hkl : k=l:=by omega);have q0:=HBX.out.cell;(go_wp2_with fail);refine leaves_marks (B:=w.heap.size+1) (v:=.string o) (Nat.le_succ _) (fun W=>results_tmp (fn:=Tryz.f128) (t:=2) rfl _ _ W) (fun W hW=>⟨?_,hW⟩) ds wo HM.out hall;rw [HO.out,List.take_of_length_le (by have:=HLEN.out; omega)]
open Go.RowKit

def SameR : Prop:=∀ (x : Rev) (aa : Option Addr) (ac : Nat) (ba : Option Addr) (bc : Nat) (w : World),RevSmall x→Sl RAns 4 (fun _=>True) w aa x.answers.length x.answers→Sl RAns 4 (fun _=>True) w ba x.answers.length x.answers→GlobP w →
 Calls Tryz.prog 35 #[.agg (revC x aa ac),.agg (revC x ba bc)] w fun e w'=>e=.returned (.bool true)∧All w w'

set_option maxRecDepth 100000 in
set_option maxHeartbeats 1600000 in
theorem equalRevs_same (hSR : SameR) (a1 : Option Addr) (l1 c1 : Nat) (a2 : Option Addr) (l2 c2 : Nat) (xs : List Rev) (w : World) (h1 : Sl RRev 7 (fun _=>True) w a1 l1 xs) (h2 : Sl RRev 7 (fun _=>True) w a2 l2 xs) (hl : l1≤1000000) (hg : GlobP w) :
  Calls Tryz.prog 33 #[.slice a1 l1 c1,.slice a2 l2 c2,.func (.func 35) #[] #[]] w fun e w'=>e=.returned (.bool true)∧All w w':=by
 have e1:=h1.len;have e2:=h2.len;(have e3 : l2=l1:=by omega);subst e3;clear e1 e2;have eg : ∀ args w,(callFunc 35 args).run Tryz.prog w=.ok (.enter 35 args) w:=enters_of Tryz.func35 (by kernel_rfl) rfl;(go_enter Tryz.func33,Tryz.ntmps33);(go_wp2_with fail);go_loopw [17] (fun i wr=>∃ k : Nat,k≤l2∧i=.int .i64 k∧All w wr) (fun i _=>l2 - (intOf i).toNat)
 case atStart=>exact ⟨0,Nat.zero_le _,rfl,Kept.refl _ _⟩
 case round =>
  obtain ⟨k,hk,rfl,hall⟩:=hrel;obtain ⟨wo,rfl⟩ : ∃ wo : World,wo=wr:=⟨_,rfl⟩;by_cases hlt : k < l2
  ·obtain ⟨b1,o1,y1,aa,ac,ha1,-,p0,p1,p2,p3,p4,p5,p6,hsm,hc1,hy1,-⟩:=(h1.keep RRev.ok hall).atRev hlt;obtain ⟨b2,o2,y2,ba,bc,ha2,-,q0,q1,q2,q3,q4,q5,q6,-,hc2,hy2,-⟩:=(h2.keep RRev.ok hall).atRev hlt;(have hy : y2=y1:=by rw [hy1] at hy2; injection hy2 with hy2; exact hy2.symm);subst hy;subst ha1;subst ha2;have hk2 : All wo ((wo.alloc (.cells (revC y2 aa ac) 73)).alloc (.cells (revC y2 ba bc) 73)):=(Kept.alloc _ _ _).then_alloc _;have hE:=Lib.hid (hSR y2 aa ac ba bc _ hsm (hc1.keep RAns.ok hk2) (hc2.keep RAns.ok hk2) ((hg.keep hall).keep hk2));have hb1:=lt_of_cell p0;have hb2:=lt_of_cell q0;clear h1 h2 hy1 hy2 hc1 hc2 hsm;(go_wp2_with fail);refine hE.out.mono ?_;rintro e w2 ⟨rfl,hw2⟩;(go_wp2_with fail);go_roundw
   case rel=>exact ⟨k+1,by omega,by go_num,(hall.trans hk2).trans hw2⟩
   case measure=>simp [intOf]; omega
  ·(have hd : decide ((k : Int) < (l2 : Int))=false:=by simp; omega);(go_wp2_with fail);go_ret;exact ⟨rfl,hall⟩
open Go.RowKit

def LinesH (f : List Ans4→ByteArray) : Prop:=∀ (a : Option Addr) (l c : Nat) (ys : List Ans4) (w : World),Sl RAns 4 (fun _=>True) w a l ys→l≤1000→GlobP w →
 Calls Tryz.prog 128 #[.slice a l c] w fun e w'=>e=.returned (.string (f ys))∧All w w'
theorem cmpB_self (a : ByteArray) : Lib.compareBytes a.data.toList a.data.toList=0:=(cmp_zero _ _).2 rfl
theorem cmpS_self : ∀ l : List ByteArray,cmpS l l=0
 | []=>rfl
 | a :: l=>by rw [cmpS,cmpB_self,if_neg (by simp)]; exact cmpS_self l

set_option maxRecDepth 100000 in
set_option maxHeartbeats 3200000 in
theorem order_same {f : List Ans4→ByteArray} (hL : LinesH f) (x : Rev) (aa : Option Addr) (ac : Nat) (ba : Option Addr) (bc : Nat) (w : World) (hx : RevSmall x) (ha : Sl RAns 4 (fun _=>True) w aa x.answers.length x.answers) (hb : Sl RAns 4 (fun _=>True) w ba x.answers.length x.answers) (hg : GlobP w) :
  Calls Tryz.prog 100 #[.agg (revC x aa ac),.agg (revC x ba bc)] w fun e w'=>e=.returned (.int .i64 0)∧All w w':=by
 have hk : All w ((w.alloc (.cells (revC x aa ac) 73)).alloc (.cells (revC x ba bc) 73)):=(Kept.alloc _ _ _).then_alloc _;have hp1:=heap_old (.cells (revC x ba bc) 73) (heap_at w (.cells (revC x aa ac) 73) _ rfl);have hp2:=heap_at (w.alloc (.cells (revC x aa ac) 73)) (.cells (revC x ba bc) 73) (w.heap.size+1) (by simp);obtain ⟨k1,hk1⟩ : ∃ k,k=w.heap.size:=⟨_,rfl⟩;obtain ⟨k2,hk2⟩ : ∃ k,k=w.heap.size+1:=⟨_,rfl⟩;have HK1:=Lib.hid hk1;have HK2:=Lib.hid hk2;rw [← hk1] at hp1;rw [← hk2] at hp2;have HC:=Lib.hid (show ∀ wx,All ((w.alloc (.cells (revC x aa ac) 73)).alloc (.cells (revC x ba bc) 73)) wx→wx.cell? ⟨k1,0,none⟩=some (.int .i64 x.no)∧wx.cell? ⟨k1,1,none⟩=some (.int .i64 x.tm)∧wx.cell? ⟨k1,2,none⟩=some (.string x.paper)∧wx.cell? ⟨k1,3,none⟩=some (.string x.person)∧wx.cell? ⟨k1,4,none⟩=some (.string x.by_)∧wx.cell? ⟨k1,5,none⟩=some (.bool x.done)∧wx.cell? ⟨k1,6,none⟩=some (.slice aa x.answers.length ac)∧wx.cell? ⟨k2,0,none⟩=some (.int .i64 x.no)∧wx.cell? ⟨k2,1,none⟩=some (.int .i64 x.tm)∧wx.cell? ⟨k2,2,none⟩=some (.string x.paper)∧wx.cell? ⟨k2,3,none⟩=some (.string x.person)∧wx.cell? ⟨k2,4,none⟩=some (.string x.by_)∧wx.cell? ⟨k2,5,none⟩=some (.bool x.done)∧wx.cell? ⟨k2,6,none⟩=some (.slice ba x.answers.length bc) from fun wx k=>⟨cell_at (i:=0) (k.heap hp1 trivial) rfl,cell_at (i:=1) (k.heap hp1 trivial) rfl,cell_at (i:=2) (k.heap hp1 trivial) rfl,cell_at (i:=3) (k.heap hp1 trivial) rfl,cell_at (i:=4) (k.heap hp1 trivial) rfl,cell_at (i:=5) (k.heap hp1 trivial) rfl,cell_at (i:=6) (k.heap hp1 trivial) rfl,cell_at (i:=0) (k.heap hp2 trivial) rfl,cell_at (i:=1) (k.heap hp2 trivial) rfl,cell_at (i:=2) (k.heap hp2 trivial) rfl,cell_at (i:=3) (k.heap hp2 trivial) rfl,cell_at (i:=4) (k.heap hp2 trivial) rfl,cell_at (i:=5) (k.heap hp2 trivial) rfl,cell_at (i:=6) (k.heap hp2 trivial) rfl⟩);have HA:=Lib.hid (ha.keep RAns.ok hk);have HB:=Lib.hid (hb.keep RAns.ok hk);have HG:=Lib.hid (hg.keep hk);have HKW:=Lib.hid hk;obtain ⟨hz1,hz2,hz3,hz4⟩:=hx;clear hk hp1 hp2 ha hb hg hk1 hk2;(go_enter Tryz.func100,Tryz.ntmps100);(go_upto_region 1 with fail);simp only [← HK2.out];simp only [← HK1.out];generalize (w.alloc (.cells (revC x aa ac) 73)).alloc (.cells (revC x ba bc) 73)=w1 at *;obtain ⟨r0,r1,r2,r3,r4,r5,r6,s0,s1,s2,s3,s4,s5,s6⟩:=HC.out _ (Kept.refl _ _);have hz9 : ∀ z ∈ [x.paper,x.person,x.by_],z.size≤1000000:=by
  intro z hz;simp only [List.mem_cons,List.not_mem_nil,or_false] at hz;rcases hz with rfl | rfl | rfl <;> assumption
 have h31:=heap_old (.cells #[.string x.paper,.string x.person,.string x.by_] 9) (heap_at w1 (.cells #[.string x.paper,.string x.person,.string x.by_] 9) _ rfl);have h32:=heap_at (w1.alloc (.cells #[.string x.paper,.string x.person,.string x.by_] 9)) (.cells #[.string x.paper,.string x.person,.string x.by_] 9) (w1.heap.size+1) (by simp);have HCM:=Lib.hid (fun c1 c2=>compareS_any (some ⟨w1.heap.size,0,none⟩) 3 c1 (some ⟨w1.heap.size+1,0,none⟩) c2 [x.paper,x.person,x.by_] [x.paper,x.person,x.by_] _ (Sl.lit_strs' [x.paper,x.person,x.by_] h31 rfl trivial hz9) (Sl.lit_strs' [x.paper,x.person,x.by_] h32 rfl trivial hz9) (by omega));have hlk1:=lt_of_cell r0;have hlk2:=lt_of_cell s0;clear h31 h32 hz9;(go_wp2_with fail);refine (HCM.out _ _).mono ?_;rintro e w2 ⟨rfl,hh⟩;(have hw2 : All w1 w2:=by rw [← hh]; exact (Kept.alloc _ _ _).then_alloc _);rw [cmpS_self];clear hh r0 r1 r2 r3 r4 r5 r6 s0 s1 s2 s3 s4 s5 s6;obtain ⟨r0,r1,r2,r3,r4,r5,r6,s0,s1,s2,s3,s4,s5,s6⟩:=HC.out _ hw2;(go_wp2_with fail);refine wp_region_inv 7 (by kernel_rfl) (by kernel_rfl) (by kernel_rfl) (fun _ wx=>All w2 wx)
  (DL [QIs (Value.pointer (some ⟨k1,6,none⟩)),QIs (Value.slice aa x.answers.length ac),QIs (Value.string (f x.answers)),QIs (Value.pointer (some ⟨k2,6,none⟩)),QIs (Value.slice ba x.answers.length bc),QIs (Value.string (f x.answers)),QIs (Value.int .i64 0)]) All
  (DL.keep (by simp only [List.forall_mem_cons,List.not_mem_nil,false_implies,implies_true,and_true]; exact ⟨QIs.stays _,QIs.stays _,QIs.stays _,QIs.stays _,QIs.stays _,QIs.stays _,QIs.stays _⟩)) ?_ ?_ ?_
 ·exact Kept.drew _ _
 ·intro i o t ho hd hi k' a' wx hk' hg hdf hts hoth hdeps;have hszx:=hg.size;(have hz : i=0∨i=1∨i=2∨i=3∨i=4∨i=5∨i=6:=by omega);rcases hz with rfl | rfl | rfl | rfl | rfl | rfl | rfl
  ·obtain rfl:=Option.some.inj ho;obtain rfl:=Option.some.inj hd;have e0 : a'.tmps.getD 2 undef=Value.pointer (some ⟨k1,0,none⟩):=tmp_of ((hoth 2 (by decide)).trans rfl);clear hoth hdeps hdf hts ho;refine wp_via (fun K' hK=>?_);have HK:=Lib.hid hK;clear hK;go_simp;exact HK.out _ _ ⟨_,rfl,hg,Kept.refl _ _,rfl⟩
  ·obtain rfl:=Option.some.inj ho;obtain rfl:=Option.some.inj hd;have e0 : a'.tmps.getD 47 undef=Value.pointer (some ⟨k1,6,none⟩):=hdeps 0 (by decide) 47 rfl;obtain ⟨y0,y1,y2,y3,y4,y5,y6,z0,z1,z2,z3,z4,z5,z6⟩:=HC.out wx (hw2.trans hg);clear hoth hdeps hdf hts ho;refine wp_via (fun K' hK=>?_);have HK:=Lib.hid hK;clear hK;go_simp;exact HK.out _ _ ⟨_,rfl,hg,Kept.refl _ _,rfl⟩
  ·obtain rfl:=Option.some.inj ho;obtain rfl:=Option.some.inj hd;have e0 : a'.tmps.getD 48 undef=Value.slice aa x.answers.length ac:=hdeps 1 (by decide) 48 rfl;clear hoth hdeps hdf hts ho;refine wp_via (fun K' hK=>?_);have HK:=Lib.hid hK;clear hK;go_simp;refine (hL aa x.answers.length ac x.answers wx (HA.out.keep RAns.ok (hw2.trans hg)) (by omega) (HG.out.keep (hw2.trans hg))).mono ?_;rintro e w4 ⟨rfl,hw4⟩;exact HK.out _ _ ⟨_,rfl,hg.trans hw4,hw4,rfl⟩
  ·obtain rfl:=Option.some.inj ho;obtain rfl:=Option.some.inj hd;have e0 : a'.tmps.getD 3 undef=Value.pointer (some ⟨k2,0,none⟩):=tmp_of ((hoth 3 (by decide)).trans rfl);clear hoth hdeps hdf hts ho;refine wp_via (fun K' hK=>?_);have HK:=Lib.hid hK;clear hK;go_simp;exact HK.out _ _ ⟨_,rfl,hg,Kept.refl _ _,rfl⟩
  ·obtain rfl:=Option.some.inj ho;obtain rfl:=Option.some.inj hd;have e0 : a'.tmps.getD 50 undef=Value.pointer (some ⟨k2,6,none⟩):=hdeps 3 (by decide) 50 rfl;obtain ⟨y0,y1,y2,y3,y4,y5,y6,z0,z1,z2,z3,z4,z5,z6⟩:=HC.out wx (hw2.trans hg);clear hoth hdeps hdf hts ho;refine wp_via (fun K' hK=>?_);have HK:=Lib.hid hK;clear hK;go_simp;exact HK.out _ _ ⟨_,rfl,hg,Kept.refl _ _,rfl⟩
  ·obtain rfl:=Option.some.inj ho;obtain rfl:=Option.some.inj hd;have e0 : a'.tmps.getD 51 undef=Value.slice ba x.answers.length bc:=hdeps 4 (by decide) 51 rfl;clear hoth hdeps hdf hts ho;refine wp_via (fun K' hK=>?_);have HK:=Lib.hid hK;clear hK;go_simp;refine (hL ba x.answers.length bc x.answers wx (HB.out.keep RAns.ok (hw2.trans hg)) (by omega) (HG.out.keep (hw2.trans hg))).mono ?_;rintro e w4 ⟨rfl,hw4⟩;exact HK.out _ _ ⟨_,rfl,hg.trans hw4,hw4,rfl⟩
  ·obtain rfl:=Option.some.inj ho;obtain rfl:=Option.some.inj hd;have e0 : a'.tmps.getD 49 undef=Value.string (f x.answers):=hdeps 2 (by decide) 49 rfl;have e1 : a'.tmps.getD 52 undef=Value.string (f x.answers):=hdeps 5 (by decide) 52 rfl;clear hoth hdeps hdf hts ho;refine wp_via (fun K' hK=>?_);have HK:=Lib.hid hK;clear hK;go_simp;refine (Tryz.strings_Compare _ _ _).mono ?_;rintro e w4 ⟨rfl,rfl⟩;rw [cmpB_self];exact HK.out _ _ ⟨_,rfl,hg,Kept.refl _ _,rfl⟩
 ·intro wx f9 hg hd;have e9 : f9 53=Value.int .i64 0:=hd 6 53 (by decide) rfl;rw [show dsts _ 7=[47,48,49,50,51,52,53] from by kernel_rfl];simp only [List.map_cons,List.map_nil,puts,Act.put,e9,List.drop_succ_cons,List.drop_zero];clear hd e9;generalize f9 47=f47;generalize f9 48=f48;generalize f9 49=f49;generalize f9 50=f50;generalize f9 51=f51;generalize f9 52=f52;simp only [List.setIfInBounds_toArray,List.set_cons_zero,List.set_cons_succ];(go_wp2_with fail);go_ret;exact ⟨rfl,HKW.out.trans (hw2.trans hg)⟩

set_option maxRecDepth 100000 in
set_option maxHeartbeats 3200000 in
theorem sameR_any : SameR:=by
 intro x aa ac ba bc w hx ha hb hg;have hk : All w ((w.alloc (.cells (revC x aa ac) 73)).alloc (.cells (revC x ba bc) 73)):=(Kept.alloc _ _ _).then_alloc _;have hp1:=heap_old (.cells (revC x ba bc) 73) (heap_at w (.cells (revC x aa ac) 73) _ rfl);have hp2:=heap_at (w.alloc (.cells (revC x aa ac) 73)) (.cells (revC x ba bc) 73) (w.heap.size+1) (by simp);have HO:=Lib.hid (order_same (f:=linesF) (fun a l c ys w h1 h2 h3=>answerLines_any a l c ys w h1 h2 h3.p) x aa ac ba bc _ hx (ha.keep RAns.ok hk) (hb.keep RAns.ok hk) (hg.keep hk));have c0:=cell_at (i:=0) hp1 rfl;have c1:=cell_at (i:=1) hp1 rfl;have c2:=cell_at (i:=2) hp1 rfl;have c3:=cell_at (i:=3) hp1 rfl;have c4:=cell_at (i:=4) hp1 rfl;have c5:=cell_at (i:=5) hp1 rfl;have c6:=cell_at (i:=6) hp1 rfl;have d0:=cell_at (i:=0) hp2 rfl;have d1:=cell_at (i:=1) hp2 rfl;have d2:=cell_at (i:=2) hp2 rfl;have d3:=cell_at (i:=3) hp2 rfl;have d4:=cell_at (i:=4) hp2 rfl;have d5:=cell_at (i:=5) hp2 rfl;have d6:=cell_at (i:=6) hp2 rfl;have HKW:=Lib.hid hk;clear hk hp1 hp2 ha hb hg hx;(go_enter Tryz.func35,Tryz.ntmps35);(go_wp2_with fail);refine HO.out.mono ?_;rintro e w2 ⟨rfl,hw2⟩;(go_wp2_with fail);go_ret;exact ⟨rfl,HKW.out.trans hw2⟩
end Go.Proofs.YtjbaijgdkkccbaaGreatDoor
