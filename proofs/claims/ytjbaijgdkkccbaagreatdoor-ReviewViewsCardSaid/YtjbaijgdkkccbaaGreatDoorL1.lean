/- How far the review of a pair is: the method stand; at. -/
import Derived.Test.YtjbaijgdkkccbaaGreatDoorBn
import Derived.Test.YtjbaijgdkkccbaaGreatDoorRs
import Derived.Test.YtjbaijgdkkccbaaGreatDoorBg
import Derived.Test.YtjbaijgdkkccbaaGreatDoorBr
import Derived.Test.YtjbaijgdkkccbaaGreatDoorRa
namespace Go.Proofs.YtjbaijgdkkccbaaGreatDoor
open Go.RowKit

noncomputable def atE (s : Set7) (xs : List Rev) (tm : Int) : Int:=firstV [revsF s xs,if 0≤tm∧tm < 5761440 then 0 else 1]
theorem atE_1 {s : Set7} {xs : List Rev} {tm : Int} (h : revsF s xs≠0) : atE s xs tm = revsF s xs:=by rw [atE,firstV,if_pos h]
theorem atE_2 {s : Set7} {xs : List Rev} {tm : Int} (h : revsF s xs = 0) : atE s xs tm = if 0≤tm∧tm < 5761440 then 0 else 1:=by
 rw [atE,firstV,if_neg (fun e=>e h),firstV];by_cases h3 : 0≤tm∧tm < 5761440
 ·rw [if_pos h3]; rfl
 ·rw [if_neg h3]; rfl
def AtV (er : Int) (cs : Array Value) (ts : List Raw) (e : Ending) (w' : World) : Prop :=
 (er = 0→∃ kb,e = .returned (.tuple #[.pointer (some ⟨kb,0,none⟩),.int .i64 0])∧BookIs w' kb cs ts)∧(er≠0→e = .returned (.tuple #[.pointer none,.int .i64 er]))
theorem AtV.bad {er : Int} {cs : Array Value} {ts : List Raw} {w' : World} (h : er≠0) : AtV er cs ts (.returned (.tuple #[.pointer none,.int .i64 er])) w':=⟨fun h0=>absurd h0 h,fun _=>rfl⟩

set_option maxRecDepth 100000 in
set_option maxHeartbeats 3200000 in
theorem at_any (a0 : Option Addr) (l0 c0 : Nat) (a1 : Option Addr) (l1 c1 : Nat) (a2 : Option Addr) (l2 c2 : Nat) (a3 : Option Addr) (l3 c3 : Nat) (a4 : Option Addr) (l4 c4 : Nat) (s : Set7) (al : Option Addr) (ll cl : Nat) (xs : List Rev) (ts : List Raw) (tm : Int) (w : World) (his : SetIs (fun _=>True) w a0 l0 a1 l1 a2 l2 a3 l3 a4 l4 s) (hsx : Sl RRev 7 (fun _=>True) w al ll xs) (hst : Sl RRaw 7 (fun _=>True) w al ll ts) (hl : ll≤1000000) (hlc : ll≤cl) (hg : Glob w) :
  Calls Tryz.prog 69 #[.agg #[.slice a0 l0 c0,.slice a1 l1 c1,.slice a2 l2 c2,.slice a3 l3 c3,.slice a4 l4 c4,.int .i64 s.due,.int .i64 s.reply],.slice al ll cl,.int .i64 tm] w fun e w'=>AtV (atE s xs tm) #[.slice a0 l0 c0,.slice a1 l1 c1,.slice a2 l2 c2,.slice a3 l3 c3,.slice a4 l4 c4,.int .i64 s.due,.int .i64 s.reply] ts e w'∧All w w':=by
 have hk1 : All w (w.alloc (.cells #[.slice a0 l0 c0,.slice a1 l1 c1,.slice a2 l2 c2,.slice a3 l3 c3,.slice a4 l4 c4,.int .i64 s.due,.int .i64 s.reply] 31)):=Kept.alloc _ _ _;have hb:=heap_at w (.cells #[.slice a0 l0 c0,.slice a1 l1 c1,.slice a2 l2 c2,.slice a3 l3 c3,.slice a4 l4 c4,.int .i64 s.due,.int .i64 s.reply] 31) _ rfl;obtain ⟨bb,hbb⟩ : ∃ b,b = w.heap.size:=⟨_,rfl⟩;have HBB:=Lib.hid hbb;rw [← hbb] at hb;have HBL:=Lib.hid (fun (wx : World) (k : All (w.alloc (.cells #[.slice a0 l0 c0,.slice a1 l1 c1,.slice a2 l2 c2,.slice a3 l3 c3,.slice a4 l4 c4,.int .i64 s.due,.int .i64 s.reply] 31)) wx)=>k.heap hb trivial);have HCK:=Lib.hid (check_any a0 l0 c0 a1 l1 c1 a2 l2 c2 a3 l3 c3 a4 l4 c4 s al ll cl xs _ (his.keep hk1) (hsx.keep RRev.ok hk1) hl hlc (hg.keep hk1));have HBO:=Lib.hid (fun (wx : World) (k : All (w.alloc (.cells #[.slice a0 l0 c0,.slice a1 l1 c1,.slice a2 l2 c2,.slice a3 l3 c3,.slice a4 l4 c4,.int .i64 s.due,.int .i64 s.reply] 31)) wx)=>bookOf_any a0 l0 c0 a1 l1 c1 a2 l2 c2 a3 l3 c3 a4 l4 c4 s al ll cl ts wx (hst.keep RRaw.ok (hk1.trans k)) hl);obtain ⟨er,her⟩ : ∃ z,z = atE s xs tm:=⟨_,rfl⟩;have HER:=Lib.hid her;obtain ⟨ef,hef⟩ : ∃ z,z = revsF s xs:=⟨_,rfl⟩;have HEF:=Lib.hid hef;rw [← her];have HK1:=Lib.hid hk1;have e0:=cell_at (i:=0) hb rfl;have e1:=cell_at (i:=1) hb rfl;have e2:=cell_at (i:=2) hb rfl;have e3:=cell_at (i:=3) hb rfl;have e4:=cell_at (i:=4) hb rfl;have e5:=cell_at (i:=5) hb rfl;have e6:=cell_at (i:=6) hb rfl;clear her hef hbb hb his hsx hst hg hk1;(go_enter Tryz.func69,Tryz.ntmps69);(go_upto_region 1 with fail);simp only [← HBB.out];generalize w.alloc (.cells #[.slice a0 l0 c0,.slice a1 l1 c1,.slice a2 l2 c2,.slice a3 l3 c3,.slice a4 l4 c4,.int .i64 s.due,.int .i64 s.reply] 31) = w1 at *;(go_wp2_with fail);refine HCK.out.mono ?_;rintro e w2 ⟨rfl,hw2⟩;rw [← HEF.out];clear e0 e1 e2 e3 e4 e5 e6;by_cases h0 : ef = 0
 case neg =>
  (have hd : (ef != 0) = true:=by simpa using h0);have HE:=Lib.hid (show er = ef from by rw [HER.out,atE_1 (by rw [← HEF.out]; exact h0),HEF.out]);have H0:=Lib.hid h0;clear h0;(go_wp2_with fail);go_ret2;exact ⟨by rw [HE.out]; exact AtV.bad H0.out,HK1.out.trans hw2⟩
 case pos =>
  subst h0;have hd : ((0 : Int) != 0) = false:=rfl;have HE:=Lib.hid (show er = _ from by rw [HER.out,atE_2 HEF.out.symm]);(go_wp2_with fail);refine (isMoment_any tm _).mono ?_;rintro e w' ⟨rfl,rfl⟩;by_cases hm : 0≤tm∧tm < 5761440
  case neg =>
   rw [decide_eq_false hm];have HE2:=Lib.hid (show er = 1 from by rw [HE.out,if_neg hm]);clear hm;(go_wp2_with fail);go_ret2;exact ⟨by rw [HE2.out]; exact AtV.bad (by decide),HK1.out.trans hw2⟩
  case pos =>
   rw [decide_eq_true hm];have HE2:=Lib.hid (show er = 0 from by rw [HE.out,if_pos hm]);have hb2:=HBL.out _ hw2;have e0:=cell_at (i:=0) hb2 rfl;have e1:=cell_at (i:=1) hb2 rfl;have e2:=cell_at (i:=2) hb2 rfl;have e3:=cell_at (i:=3) hb2 rfl;have e4:=cell_at (i:=4) hb2 rfl;have e5:=cell_at (i:=5) hb2 rfl;have e6:=cell_at (i:=6) hb2 rfl;clear hm hb2;(go_wp2_with fail);refine (HBO.out _ hw2).mono ?_;rintro e w3 ⟨⟨kb,rfl,hbk⟩,hw3⟩;clear e0 e1 e2 e3 e4 e5 e6;(go_wp2_with fail);go_ret2;exact ⟨by rw [HE2.out]; exact ⟨fun _=>⟨kb,rfl,hbk⟩,fun h=>absurd rfl h⟩,HK1.out.trans (hw2.trans hw3)⟩
end Go.Proofs.YtjbaijgdkkccbaaGreatDoor

/- Stands; StandsOf; Equal of stands and of pairs. -/
namespace Go.Proofs.YtjbaijgdkkccbaaGreatDoor
open Go.RowKit

structure Std3 where
 paper : ByteArray
 person : ByteArray
 state : Int
def StdSmall (x : Std3) : Prop:=x.paper.size≤1000000∧x.person.size≤1000000
def encStd (x : Std3) : List Value:=[.string x.paper,.string x.person,.int .i64 x.state]
def RStd : Rel Std3:=fun _ _ vs x=>vs = encStd x∧StdSmall x
theorem flatStd : Flat RStd encStd StdSmall 3 :=
 ⟨fun _ _ _ _=>Iff.rfl,fun _=>rfl,by decide,fun x u hu=>by simp [encStd] at hu; rcases hu with rfl | rfl | rfl <;> rfl⟩
theorem RStd.ok : RStd.Ok:=Flat.ok flatStd
end Go.Proofs.YtjbaijgdkkccbaaGreatDoor

/- StandsOf. -/
namespace Go.Proofs.YtjbaijgdkkccbaaGreatDoor
open Go.RowKit

end Go.Proofs.YtjbaijgdkkccbaaGreatDoor

/- The reviews that count, pair by pair. -/
namespace Go.Proofs.YtjbaijgdkkccbaaGreatDoor
open Go.RowKit

noncomputable def doneL (ts : List Raw) (tm : Int) (ps : List Pair2) : List Raw:=ps.filterMap (fun p=>lastO ts (p.paper,p.person) tm true)
theorem doneL_snoc {ts : List Raw} {tm : Int} {ps : List Pair2} {k : Nat} {y : Pair2} (h : ps.take (k+1) = ps.take k ++ [y]) : doneL ts tm (ps.take (k+1)) = doneL ts tm (ps.take k) ++ (lastO ts (y.paper,y.person) tm true).toList:=by
 rw [h,doneL,List.filterMap_append]
 cases ho : lastO ts (y.paper,y.person) tm true <;> simp [doneL,ho]
theorem doneL_len (ts : List Raw) (tm : Int) (ps : List Pair2) : (doneL ts tm ps).length≤ps.length:=List.length_filterMap_le _ _
theorem rawSl {B mb : Nat} {w : World} {v : Value} {xs : List Raw} (h : Acc RRaw 7 73 (fun _=>False) B w v xs) (hb : mb < B) : ∃ (p : Option Addr) (c : Nat),v = .slice p xs.length c∧Sl RRaw 7 (fun k=>k≠mb) w p xs.length xs:=by
 obtain ⟨p,c,hv,h1⟩:=h.sl RRaw.ok (by decide) (G:=fun k=>k≠mb) (fun _ h=>h.elim) (fun k hk=>by have:=(h.lt k hk).1; omega);exact ⟨p,c,hv,h1⟩
set_option maxRecDepth 100000 in
set_option maxHeartbeats 12800000 in
theorem bookValid_any (a0 : Option Addr) (l0 c0 : Nat) (a1 : Option Addr) (l1 c1 : Nat) (a2 : Option Addr) (l2 c2 : Nat) (a3 : Option Addr) (l3 c3 : Nat) (a4 : Option Addr) (l4 c4 : Nat) (s : Set7) (kb : Nat) (ts : List Raw) (hts : ts.length≤1000000) (hsm : ∀ z ∈ ts,RevSmall z.1) (tm : Int) (w : World) (hb : BookIs w kb #[.slice a0 l0 c0,.slice a1 l1 c1,.slice a2 l2 c2,.slice a3 l3 c3,.slice a4 l4 c4,.int .i64 s.due,.int .i64 s.reply] ts) (hps : Sl RPair 2 (fun _=>True) w a2 l2 s.pairs) (hl2 : l2≤1000000) :
  Calls Tryz.prog 70 #[.pointer (some ⟨kb,0,none⟩),.int .i64 tm] w fun e w'=>(∃ v,e = .returned v∧Acc RRaw 7 73 (fun _=>False) w.heap.size w' v (doneL ts tm s.pairs))∧All w w':=by
 have HPL:=Lib.hid hps.len;have HBK:=Lib.hid (fun (wx : World) (k : All w wx)=>hb.keep k);have HPS:=Lib.hid (fun (wx : World) (k : All w wx)=>hps.keep RPair.ok k);have HSM:=Lib.hid hsm;obtain ⟨mb,B0,n0,vs0,hkb,-⟩:=hb;have e2:=cell_at (i:=2) hkb rfl;clear hps hsm hkb;(go_enter Tryz.func70,Tryz.ntmps70);(go_wp2_with fail);clear e2;go_loopw [5,16] (fun o i wr=>∃ k : Nat,k≤l2∧i = .int .i64 k∧Acc RRaw 7 73 (fun _=>False) w.heap.size wr o (doneL ts tm (s.pairs.take k))∧All w wr) (fun _ i _=>l2 - (intOf i).toNat)
 case atStart=>exact ⟨0,Nat.zero_le _,rfl,Acc.nil _ _ _ _ _ _,Kept.refl _ _⟩
 case round =>
  obtain ⟨k,hk,rfl,hacc,hwr⟩:=hrel;obtain ⟨wo,rfl⟩ : ∃ wo : World,wo = wr:=⟨_,rfl⟩;by_cases hlt : k < l2
  ·obtain ⟨b,off,y,ha,-,c0,c1,-,-,htk⟩:=(HPS.out wo hwr).atPair hlt;subst ha;have HY:=Lib.hid (doneL_snoc (ts:=ts) (tm:=tm) htk);have hyz1:=y.h1;have hyz2:=y.h2;have hko : All wo (wo.alloc (.cells #[.string y.paper,.string y.person] 39)):=Kept.alloc _ _ _;have hblk:=heap_at wo (.cells #[.string y.paper,.string y.person] 39) _ rfl;obtain ⟨yb,hyb⟩ : ∃ q,q = wo.heap.size:=⟨_,rfl⟩;have HYB:=Lib.hid hyb;rw [← hyb] at hblk;have hac1:=hacc.keepAll RRaw.ok hko;have hwa:=hwr.trans hko;obtain ⟨oa,oc,rfl,hoc⟩:=hac1.form;have hmk : (doneL ts tm (s.pairs.take k)).length≤k:=Nat.le_trans (doneL_len _ _ _) (List.length_take_le _ _);clear htk hyb hacc hwr hko;(go_upto_region 5 with fail);simp only [← HYB.out];generalize wo.alloc (.cells #[.string y.paper,.string y.person] 39) = wa at *;clear c0 c1;obtain ⟨o,ho⟩ : ∃ z,z = lastO ts (y.paper,y.person) tm true:=⟨_,rfl⟩;have HO:=Lib.hid ho;have HLA:=Lib.hid (last_any kb _ (by rfl) ts hts (y.paper,y.person) ⟨hyz1,hyz2⟩ tm true wa (HBK.out wa hwa));rw [← ho] at HLA HY;clear ho;have q0:=cell_at (i:=0) hblk rfl;have q1:=cell_at (i:=1) hblk rfl;clear hblk;(go_wp2_with fail);refine HLA.out.mono ?_;rintro e w3 ⟨rfl,hw3⟩;clear q0 q1;obtain ⟨⟨x,aa,ac⟩,hx⟩ : ∃ z,z = o.getD raw0:=⟨_,rfl⟩;have HX:=Lib.hid hx;rw [← hx];rw [show (encRaw (x,aa,ac)).toArray = revC x aa ac from rfl];clear hx;have hk4 : All w3 (w3.alloc (.cells (revC x aa ac) 73)):=Kept.alloc _ _ _;have hr4:=heap_at w3 (.cells (revC x aa ac) 73) _ rfl;obtain ⟨rb,hrb⟩ : ∃ b,b = w3.heap.size:=⟨_,rfl⟩;have HRB:=Lib.hid hrb;rw [← hrb] at hr4;have hw4:=hwa.trans (hw3.trans hk4);have hac4:=hac1.keepAll RRaw.ok (hw3.trans hk4);clear hrb hac1 hwa hw3 hk4;(go_upto_region 6 with fail);simp only [← HRB.out];generalize w3.alloc (.cells (revC x aa ac) 73) = w4 at *
   cases o with
   | none =>
    have HY2:=Lib.hid (show doneL ts tm (s.pairs.take (k+1)) = doneL ts tm (s.pairs.take k) from by rw [HY.out]; simp);have hfin:=Lib.hid hac4;clear hac4 hr4;(go_wp2_with fail);go_roundw
    case rel=>exact ⟨k+1,by omega,by go_num,by rw [HY2.out]; exact hfin.out,hw4⟩
    case measure=>simp [intOf]; omega
   | some z =>
    have hz : z = (x,aa,ac):=HX.out.symm;subst hz;have HY2:=Lib.hid (show doneL ts tm (s.pairs.take (k+1)) = doneL ts tm (s.pairs.take k) ++ [(x,aa,ac)] from by rw [HY.out]; rfl);have HSX:=Lib.hid (HSM.out _ (lastO_mem HO.out.symm));have u0:=cell_at (i:=0) hr4 rfl;have u1:=cell_at (i:=1) hr4 rfl;have u2:=cell_at (i:=2) hr4 rfl;have u3:=cell_at (i:=3) hr4 rfl;have u4:=cell_at (i:=4) hr4 rfl;have u5:=cell_at (i:=5) hr4 rfl;have u6:=cell_at (i:=6) hr4 rfl;clear hr4;have hz4:=hw4.size;(go_wp2_with (at_builtin; refine wp_append1 RRaw.ok _ rfl _ _ 32 rfl w.heap.size 73 (.agg #[.int .i64 0,.int .i64 0,.string ⟨#[]⟩,.string ⟨#[]⟩,.string ⟨#[]⟩,.bool false,.slice none 0 0]) 7 96 Tryz.underlying32 (by kernel_rfl) rfl (by decide) (fun _=>False) _ (doneL ts tm (s.pairs.take k)) rfl (hac4.keepAll RRaw.ok (Kept.alloc _ _ _)) ⟨_,0,none⟩ 1 [.int .i64 x.no,.int .i64 x.tm,.string x.paper,.string x.person,.string x.by_,.bool x.done,.slice aa x.answers.length ac] rfl rfl (World.news_of_block (cs:=#[.int .i64 x.no,.int .i64 x.tm,.string x.paper,.string x.person,.string x.by_,.bool x.done,.slice aa x.answers.length ac]) (heap_at _ _ _ (by simp))) (by simp [Value.oneCell']) (x,aa,ac) ⟨rfl,HSX.out⟩ (by omega) (by decide) (by simp; omega) ?_));intro p9 c9 w9 hacc9 hg9 _;have hk9:=Lib.hid ((hw4.then_alloc _).grown hg9 (fun j hj=>Or.inl (hac4.lt j hj).1));have hfin:=Lib.hid hacc9;clear hacc9 hg9 hac4 u0 u1 u2 u3 u4 u5 u6;(go_wp2_with fail);go_roundw
    case rel=>exact ⟨k+1,by omega,by go_num,by rw [HY2.out]; exact hfin.out,hk9.out⟩
    case measure=>simp [intOf]; omega
  ·(have hd8 : decide ((k : Int) < (l2 : Int)) = false:=by simp; omega);have HE2:=Lib.hid (show s.pairs.take k = s.pairs from List.take_of_length_le (by have:=HPL.out; omega));rw [HE2.out] at hacc;have HSL:=Lib.hid hacc;clear hacc;(go_wp2_with fail);go_ret;exact ⟨⟨_,rfl,HSL.out⟩,hwr⟩
end Go.Proofs.YtjbaijgdkkccbaaGreatDoor

/- Full. -/
namespace Go.Proofs.YtjbaijgdkkccbaaGreatDoor
open Go.RowKit

def StrV (er : Int) (xs : List ByteArray) (e : Ending) (w' : World) : Prop :=
 (er = 0→∃ (p : Option Addr) (c : Nat),e = .returned (.tuple #[.slice p xs.length c,.int .i64 0])∧Sl RStr 1 (fun _=>True) w' p xs.length xs)∧(er≠0→e = .returned (.tuple #[.slice none 0 0,.int .i64 er]))
theorem StrV.bad {er : Int} {xs : List ByteArray} {w' : World} (h : er≠0) : StrV er xs (.returned (.tuple #[.slice none 0 0,.int .i64 er])) w':=⟨fun h0=>absurd h0 h,fun _=>rfl⟩
end Go.Proofs.YtjbaijgdkkccbaaGreatDoor

/- FullOf. -/
namespace Go.Proofs.YtjbaijgdkkccbaaGreatDoor
open Go.RowKit

end Go.Proofs.YtjbaijgdkkccbaaGreatDoor

/- What Marks gives, plain: one answer of a question in each review that counts. -/
namespace Go.Proofs.YtjbaijgdkkccbaaGreatDoor
open Go.RowKit

end Go.Proofs.YtjbaijgdkkccbaaGreatDoor

/- What Level and Since give, plain. -/
namespace Go.Proofs.YtjbaijgdkkccbaaGreatDoor
open Go.RowKit

theorem revF_parts {s : Set7} {no : Nat} {prev : Option Rev} {r : Rev} (h : revF s no prev r = 0) : r.no = no∧(0≤r.tm∧r.tm < 5761440)∧backB prev r.tm = false∧inP s.pairs r.paper r.person = true∧r.by_≠r.person∧¬ (r.by_.size≠0∧isKeyB r.by_ = false):=by
 by_cases h1 : r.no≠no∨¬ (0≤r.tm∧r.tm < 5761440)
 ·rw [revF_arg h1] at h; exact absurd h (by decide)
 (have h1a : r.no = no:=Classical.byContradiction fun e=>h1 (Or.inl e));have h1b : 0≤r.tm∧r.tm < 5761440:=Classical.byContradiction fun e=>h1 (Or.inr e)
 cases h3 : backB prev r.tm with
 | true=>rw [revF_order h1a h1b h3] at h; exact absurd h (by decide)
 | false =>
  cases h4 : inP s.pairs r.paper r.person with
  | false=>rw [revF_none h1a h1b h3 h4] at h; exact absurd h (by decide)
  | true =>
   by_cases h5 : r.by_.size≠0∧isKeyB r.by_ = false
   ·rw [revF_name h1a h1b h3 h4 h5] at h; exact absurd h (by decide)
   ·rw [revF_ok h1a h1b h3 h4 h5] at h;by_cases h6 : r.by_ = r.person
    ·rw [if_pos h6] at h; exact absurd h (by decide)
    ·exact ⟨h1a,h1b,rfl,rfl,h6,h5⟩
theorem revsG_each {s : Set7} {P : Rev→Prop} (hP : ∀ no prev r,revF s no prev r = 0→P r) : ∀ (l : List Rev) (no : Nat) (prev : Option Rev),revsG s no prev l = 0→∀ r ∈ l,P r
 | [],_,_,_,_,hr=>nomatch hr
 | x :: l,no,prev,h,r,hr=>by
  rw [revsG_cons] at h;split at h
  ·rename_i h0; exact absurd h h0
  ·rename_i h0
   rcases List.mem_cons.1 hr with rfl | hr
   ·exact hP _ _ _ (Classical.not_not.1 h0)
   ·exact revsG_each hP l _ _ h r hr
theorem revsF_each {s : Set7} {P : Rev→Prop} (hP : ∀ no prev r,revF s no prev r = 0→P r) {xs : List Rev} (h : revsF s xs = 0) : ∀ r ∈ xs,P r:=by
 unfold revsF at h;split at h
 ·rename_i h1; exact absurd h h1
 split at h
 ·omega
 exact revsG_each hP xs _ _ h
theorem revsF_setup0 {s : Set7} {xs : List Rev} (h : revsF s xs = 0) : setupF s = 0:=by
 apply Classical.byContradiction
 intro hs;rw [revsF_setup hs] at h;exact hs h
theorem revsF_pairs {s : Set7} {xs : List Rev} (h : revsF s xs = 0) : ∀ r ∈ xs,inP s.pairs r.paper r.person = true:=revsF_each (fun _ _ _ h=>(revF_parts h).2.2.2.1) h
theorem revsF_times {s : Set7} {xs : List Rev} (h : revsF s xs = 0) : ∀ r ∈ xs,0≤r.tm∧r.tm < 5761440:=revsF_each (fun _ _ _ h=>(revF_parts h).2.1) h

theorem lastO_isSome {ts : List Raw} {p : K2} {tm : Int} : (lastO ts p tm true).isSome = true ↔ ∃ z ∈ bookF ts p,z.1.tm≤tm∧z.1.done = true:=by
 unfold lastO;rw [List.find?_isSome];constructor
 ·rintro ⟨z,hz,h⟩;rw [hitR_iff] at h;exact ⟨z,List.mem_reverse.1 hz,h.1,by have:=h.2; simpa [hitR] using this⟩
 ·rintro ⟨z,hz,h1,h2⟩;exact ⟨z,List.mem_reverse.2 hz,by rw [hitR_iff]; exact ⟨h1,by simp [h2]⟩⟩
noncomputable def levelF (s : Set7) (ts : List Raw) (who : ByteArray) (p : Pair2) (tm : Int) : Int :=
 if authB s.papers p.paper who = true then (if s.reply≤tm then 1 else 0)
 else if inP s.barred p.paper who = true then 0
 else if who = p.person∨memB who s.chairs = true then 3
 else if (lastO ts (p.paper,who) tm true).isSome = true then 2 else 0
theorem mem_bookF {ts : List Raw} {p : K2} {z : Raw} (h : z ∈ bookF ts p) : z ∈ ts:=(List.mem_filter.1 h).1
end Go.Proofs.YtjbaijgdkkccbaaGreatDoor
