/- What is wrong with one review: reviewFault, twice. -/
import Derived.Test.YtjbaijgdkkccbaaGreatDoorAw
import Derived.Test.YtjbaijgdkkccbaaGreatDoorAf
namespace Go.Proofs.YtjbaijgdkkccbaaGreatDoor
open Go.RowKit

theorem Glob.tab {w : World} (h : Glob w) : Tabs w:=⟨h.tabs⟩
theorem pairOf_any (no tm : Int) (paper person by_ : ByteArray) (done : Bool) (aa : Option Addr) (la ac : Nat) (w : World) :
  Calls Tryz.prog 157 #[.agg #[.int .i64 no,.int .i64 tm,.string paper,.string person,.string by_,.bool done,.slice aa la ac]] w fun e w'=>e = .returned (.agg #[.string paper,.string person])∧All w w':=by
 have hbr:=heap_old (.cells #[.string ⟨#[]⟩,.string ⟨#[]⟩] 39) (heap_at w (.cells #[.int .i64 no,.int .i64 tm,.string paper,.string person,.string by_,.bool done,.slice aa la ac] 73) _ rfl);have hbb:=heap_at (w.alloc (.cells #[.int .i64 no,.int .i64 tm,.string paper,.string person,.string by_,.bool done,.slice aa la ac] 73)) (.cells #[.string ⟨#[]⟩,.string ⟨#[]⟩] 39) (w.heap.size+1) (by simp);have hk2 : All w ((w.alloc (.cells #[.int .i64 no,.int .i64 tm,.string paper,.string person,.string by_,.bool done,.slice aa la ac] 73)).alloc (.cells #[.string ⟨#[]⟩,.string ⟨#[]⟩] 39)):=(Kept.alloc _ _ _).then_alloc _;have d2:=cell_at (i:=2) hbr rfl;have d3:=cell_at (i:=3) hbr rfl;have y0:=cell_at (i:=0) hbb rfl;have y1:=cell_at (i:=1) hbb rfl;have u0:=frozen_at (i:=0) hbb;have u1:=frozen_at (i:=1) hbb;have hkf : All w ((w.alloc (.cells #[.int .i64 no,.int .i64 tm,.string paper,.string person,.string by_,.bool done,.slice aa la ac] 73)).alloc (.cells #[.string paper,.string person] 39)):=(Kept.alloc _ _ _).then_alloc _;clear hbb hbr hk2;(go_enter Tryz.func157,Tryz.ntmps157);(go_wp2_with fail);refine bodyPost_ret (v:=.agg #[.string paper,.string person]) ?_ rfl ⟨rfl,hkf⟩;simp [results,Tryz.results157,go_sem]
theorem ne_true {a b : Int} (h : ¬ a = b) : (a != b) = true:=by simpa using h
theorem eq_false {a b : Int} (h : a = b) : (a != b) = false:=by simpa using h
theorem strs_eq (a b : ByteArray) : (a.toList == b.toList) = decide (a = b):=by
 by_cases h : a = b
 ·simp [h]
 ·rw [decide_eq_false h]; exact bytes_ne h
theorem strs_emp {a : ByteArray} (h : a.size = 0) : (a.toList == []) = true:=by rw [toList_nil h]; rfl
theorem strs_nemp {a : ByteArray} (h : ¬ a.size = 0) : (a.toList == []) = false:=by rw [beq_eq_false_iff_ne]; exact toList_ne h


set_option maxRecDepth 100000 in
set_option maxHeartbeats 12800000 in
theorem reviewFaultG_any (a0 : Option Addr) (l0 c0 : Nat) (a1 : Option Addr) (l1 c1 : Nat) (a2 : Option Addr) (l2 c2 : Nat) (a3 : Option Addr) (l3 c3 : Nat) (a4 : Option Addr) (l4 c4 : Nat) (s : Set7) (ab : Option Addr) (lb cb : Nat) (bs : List Rev) (no tm : Int) (paper person by_ : ByteArray) (done : Bool) (ans : List Ans4) (aa : Option Addr) (la ac : Nat) (w : World) (h : SetIs (fun _=>True) w a0 l0 a1 l1 a2 l2 a3 l3 a4 l4 s) (hbs : Sl RRev 7 (fun _=>True) w ab lb bs) (hlb : lb≤1000000) (hsp : s.pairs.Pairwise ltPP)
  (hz1 : paper.size≤1000000) (hz2 : person.size≤1000000) (hz3 : by_.size≤1000000) (hla : la≤1000) (ha : Sl RAns 4 (fun _=>True) w aa la ans) (hg : Glob w) :
  Calls Tryz.prog 150 #[.agg #[.slice a0 l0 c0,.slice a1 l1 c1,.slice a2 l2 c2,.slice a3 l3 c3,.slice a4 l4 c4,.int .i64 s.due,.int .i64 s.reply],.slice ab lb cb,.agg #[.int .i64 no,.int .i64 tm,.string paper,.string person,.string by_,.bool done,.slice aa la ac]] w fun e w'=>e = .returned (.int .i64 (revF s (lb+1) bs.getLast? (⟨no,tm,paper,person,by_,done,ans⟩ : Rev)))∧All w w':=by
 have hk1 : All w ((w.alloc (.cells #[.slice a0 l0 c0,.slice a1 l1 c1,.slice a2 l2 c2,.slice a3 l3 c3,.slice a4 l4 c4,.int .i64 s.due,.int .i64 s.reply] 31)).alloc (.cells #[.int .i64 no,.int .i64 tm,.string paper,.string person,.string by_,.bool done,.slice aa la ac] 73)):=(Kept.alloc _ _ _).then_alloc _;have hbs1:=heap_old (.cells #[.int .i64 no,.int .i64 tm,.string paper,.string person,.string by_,.bool done,.slice aa la ac] 73) (heap_at w (.cells #[.slice a0 l0 c0,.slice a1 l1 c1,.slice a2 l2 c2,.slice a3 l3 c3,.slice a4 l4 c4,.int .i64 s.due,.int .i64 s.reply] 31) _ rfl);have hbr1:=heap_at (w.alloc (.cells #[.slice a0 l0 c0,.slice a1 l1 c1,.slice a2 l2 c2,.slice a3 l3 c3,.slice a4 l4 c4,.int .i64 s.due,.int .i64 s.reply] 31)) (.cells #[.int .i64 no,.int .i64 tm,.string paper,.string person,.string by_,.bool done,.slice aa la ac] 73) (w.heap.size+1) (by simp);have HI:=Lib.hid (h.keep hk1);have HG:=Lib.hid (hg.keep hk1);have HA:=Lib.hid (ha.keep RAns.ok hk1);have HBS:=Lib.hid (hbs.keep RRev.ok hk1);have HBL:=Lib.hid hbs.len;clear hbs;have HSP:=Lib.hid hsp;clear hsp;have e0:=cell_at (i:=0) hbs1 rfl;have e2:=cell_at (i:=2) hbs1 rfl;have d0:=cell_at (i:=0) hbr1 rfl;have d1:=cell_at (i:=1) hbr1 rfl;have d2:=cell_at (i:=2) hbr1 rfl;have d3:=cell_at (i:=3) hbr1 rfl;have d4:=cell_at (i:=4) hbr1 rfl;have d5:=cell_at (i:=5) hbr1 rfl;have d6:=cell_at (i:=6) hbr1 rfl;clear hbs1 hbr1 h hg ha;obtain ⟨er,her⟩ : ∃ e,e = revF s (lb+1) bs.getLast? (⟨no,tm,paper,person,by_,done,ans⟩ : Rev):=⟨_,rfl⟩;have HER:=Lib.hid her;rw [← her];clear her;obtain ⟨bb,hbb⟩ : ∃ b,b = w.heap.size:=⟨_,rfl⟩;obtain ⟨rb,hrb⟩ : ∃ b,b = w.heap.size+1:=⟨_,rfl⟩;have Hbb:=Lib.hid hbb;have Hrb:=Lib.hid hrb;have Hsz:=Lib.hid (show (w.alloc (.cells #[.slice a0 l0 c0,.slice a1 l1 c1,.slice a2 l2 c2,.slice a3 l3 c3,.slice a4 l4 c4,.int .i64 s.due,.int .i64 s.reply] 31)).heap.size = w.heap.size+1 by simp);rw [← hbb] at e0 e2;rw [← hrb] at d0 d1 d2 d3 d4 d5 d6;clear hbb hrb;have HE:=Lib.hid (show ∀ (wx : World),All ((w.alloc (.cells #[.slice a0 l0 c0,.slice a1 l1 c1,.slice a2 l2 c2,.slice a3 l3 c3,.slice a4 l4 c4,.int .i64 s.due,.int .i64 s.reply] 31)).alloc (.cells #[.int .i64 no,.int .i64 tm,.string paper,.string person,.string by_,.bool done,.slice aa la ac] 73)) wx→wx.cell? ⟨bb,0,none⟩ = some (.slice a0 l0 c0)∧wx.cell? ⟨bb,2,none⟩ = some (.slice a2 l2 c2) from fun wx k=>⟨k.cell e0 trivial,k.cell e2 trivial⟩);have HD:=Lib.hid (show ∀ (wx : World),All ((w.alloc (.cells #[.slice a0 l0 c0,.slice a1 l1 c1,.slice a2 l2 c2,.slice a3 l3 c3,.slice a4 l4 c4,.int .i64 s.due,.int .i64 s.reply] 31)).alloc (.cells #[.int .i64 no,.int .i64 tm,.string paper,.string person,.string by_,.bool done,.slice aa la ac] 73)) wx→wx.cell? ⟨rb,0,none⟩ = some (.int .i64 no)∧wx.cell? ⟨rb,1,none⟩ = some (.int .i64 tm)∧wx.cell? ⟨rb,2,none⟩ = some (.string paper)∧wx.cell? ⟨rb,3,none⟩ = some (.string person)∧wx.cell? ⟨rb,4,none⟩ = some (.string by_)∧wx.cell? ⟨rb,5,none⟩ = some (.bool done)∧wx.cell? ⟨rb,6,none⟩ = some (.slice aa la ac) from fun wx k=>⟨k.cell d0 trivial,k.cell d1 trivial,k.cell d2 trivial,k.cell d3 trivial,k.cell d4 trivial,k.cell d5 trivial,k.cell d6 trivial⟩);(go_enter Tryz.func150,Tryz.ntmps150);(go_upto_region 2 with fail);simp only [← Hrb.out];simp only [← Hbb.out];clear Hbb Hrb Hsz;generalize (w.alloc (.cells #[.slice a0 l0 c0,.slice a1 l1 c1,.slice a2 l2 c2,.slice a3 l3 c3,.slice a4 l4 c4,.int .i64 s.due,.int .i64 s.reply] 31)).alloc (.cells #[.int .i64 no,.int .i64 tm,.string paper,.string person,.string by_,.bool done,.slice aa la ac] 73) = w1 at *;by_cases hN : no = ((lb+1 : Nat) : Int)
 case neg =>
  have hd : (no != ((lb : Int)+1)) = true:=ne_true (fun e=>hN (by rw [e]; omega));have hfin:=Lib.hid (show er = 1 from by rw [HER.out]; exact revF_arg (Or.inl hN));(go_wp2_with fail);go_ret;exact ⟨ret_int' hfin.out.symm,hk1⟩
 case pos =>
  have hd : (no != ((lb : Int)+1)) = false:=eq_false (by rw [hN]; omega);have PN:=Lib.hid hN;clear hN;by_cases hM : 0≤tm∧tm < 5761440
  case neg =>
   have hfin:=Lib.hid (show er = 1 from by rw [HER.out]; exact revF_arg (Or.inr hM));(go_wp2_with fail);refine (isMoment_any tm _).mono ?_;rintro e wz ⟨rfl,hh⟩;subst hh;rw [show decide (0≤tm∧tm < 5761440) = false by simpa using hM];(go_wp2_with fail);go_ret;exact ⟨ret_int' hfin.out.symm,hk1⟩
  case pos =>
   have PM:=Lib.hid hM;(go_wp2_with fail);refine (isMoment_any tm _).mono ?_;rintro e wz ⟨rfl,hh⟩;subst hh;rw [show decide (0≤tm∧tm < 5761440) = true by simpa using hM];have hM0 : 0≤tm:=hM.1;clear hM;(go_upto_region 4 with fail);go_cut [23] (fun t wx=>t = .bool (backB bs.getLast? tm)∧All w1 wx)
   case first =>
    rcases Nat.eq_zero_or_pos lb with hb0 | hb0
    case inl =>
     subst hb0;(have hgd : decide ((0 : Int) < ((0 : Nat) : Int)) = false:=by simp);have PB:=Lib.hid (show backB bs.getLast? tm = false from by have h0:=List.eq_nil_of_length_eq_zero HBL.out; rw [h0]; rfl);go_wp2_with fail
     go_quiet (fail)
     (go_wp2_with fail);go_meet;exact ⟨by rw [PB.out],Kept.drewN _ _ _⟩
    case inr =>
     obtain ⟨lp,rfl⟩ : ∃ lp,lb = lp+1:=⟨lb - 1,by omega⟩;obtain ⟨b,off,y,ya,yc,hab,-,-,t1,-,-,-,-,-,-,-,hy,-⟩:=HBS.out.atRev (k:=lp) (by omega);subst hab;have hlast : bs.getLast? = some y:=by
      have h1:=last_take hy
      rwa [List.take_of_length_le (by have:=HBL.out; omega)] at h1
     have f1 : IntKind.i64.wrap (lp : Int) = (lp : Int):=IntWalk.i64_in _ (by omega);(have f3 : (0 : Int)≤(lp : Int):=by omega);(have f4 : (lp : Int) < ((lp+1 : Nat) : Int):=by omega);clear hy;obtain ⟨ytm,hytm⟩ : ∃ z,z = y.tm:=⟨_,rfl⟩;rw [← hytm] at t1;have PB:=Lib.hid (show backB bs.getLast? tm = decide (tm < ytm) from by rw [hlast,backB,← hytm]);clear hlast hytm;go_wp2_with fail
     go_quiet (fail)
     (go_wp2_with fail);go_meet;exact ⟨by rw [PB.out],Kept.drewN _ _ _⟩
   case rest =>
    clear d0 d1;obtain ⟨rfl,hwq⟩:=hcut;obtain ⟨wq,rfl⟩ : ∃ x : World,x = wc:=⟨_,rfl⟩
    cases hord : backB bs.getLast? tm with
    | true =>
     have hfin:=Lib.hid (show er = 7 from by rw [HER.out]; exact revF_order PN.out PM.out hord);(go_wp2_with fail);go_ret;exact ⟨ret_int' hfin.out.symm,hk1.trans hwq⟩
    | false =>
     have PB:=Lib.hid hord;clear hord
     cases hin : inP s.pairs paper person with
     | false =>
      have hfin:=Lib.hid (show er = 8 from by rw [HER.out]; exact revF_none PN.out PM.out PB.out hin);have HIN:=Lib.hid hin;clear hin;obtain ⟨y0,y2⟩:=HE.out _ hwq;obtain ⟨x0,x1,x2,x3,x4,x5,x6⟩:=HD.out _ hwq;go_wp2_with fail
      go_region_law (first | (go_simp; go_at_call 157; refine (pairOf_any no tm paper person by_ done aa la ac _).mono ?_; rintro e w7 ⟨rfl,hw7⟩; have hp7 : All wq w7:=Kept.trans ((by repeat (first | exact Kept.refl _ _ | refine Kept.then_drew ?_ | refine Kept.then_drewN ?_ _ | refine Kept.then_alloc ?_ _)) : All wq _) hw7; obtain ⟨z0,z2⟩:=HE.out _ (hwq.trans hp7)) | (go_simp; go_at_call 74; refine (isInR_any a2 l2 c2 s.pairs (Pair2.mk paper person hz1 hz2) _ (HI.out.keep (hwq.trans (hp7.trans ((by repeat (first | exact Kept.refl _ _ | refine Kept.then_drew ?_ | refine Kept.then_drewN ?_ _ | refine Kept.then_alloc ?_ _)) : All w7 _)))).pairs HI.out.n2 HSP.out).mono ?_; rintro e w8 ⟨rfl,hw8⟩; have hp8 : All wq w8:=hp7.trans (Kept.trans ((by repeat (first | exact Kept.refl _ _ | refine Kept.then_drew ?_ | refine Kept.then_drewN ?_ _ | refine Kept.then_alloc ?_ _)) : All w7 _) hw8)))
      all_goals
       simp only [HIN.out];have hwr:=hwq.trans hp8;clear x0 x1 x2 x3 x4 x5 x6 y0 y2;clear PB;(go_wp2_with fail);go_ret;exact ⟨ret_int' hfin.out.symm,hk1.trans hwr⟩
     | true =>
      have HIN:=Lib.hid hin;clear hin;obtain ⟨y0,y2⟩:=HE.out _ hwq;obtain ⟨x0,x1,x2,x3,x4,x5,x6⟩:=HD.out _ hwq;go_wp2_with fail
      go_region_law (first | (go_simp; go_at_call 157; refine (pairOf_any no tm paper person by_ done aa la ac _).mono ?_; rintro e w7 ⟨rfl,hw7⟩; have hp7 : All wq w7:=Kept.trans ((by repeat (first | exact Kept.refl _ _ | refine Kept.then_drew ?_ | refine Kept.then_drewN ?_ _ | refine Kept.then_alloc ?_ _)) : All wq _) hw7; obtain ⟨z0,z2⟩:=HE.out _ (hwq.trans hp7)) | (go_simp; go_at_call 74; refine (isInR_any a2 l2 c2 s.pairs (Pair2.mk paper person hz1 hz2) _ (HI.out.keep (hwq.trans (hp7.trans ((by repeat (first | exact Kept.refl _ _ | refine Kept.then_drew ?_ | refine Kept.then_drewN ?_ _ | refine Kept.then_alloc ?_ _)) : All w7 _)))).pairs HI.out.n2 HSP.out).mono ?_; rintro e w8 ⟨rfl,hw8⟩; have hp8 : All wq w8:=hp7.trans (Kept.trans ((by repeat (first | exact Kept.refl _ _ | refine Kept.then_drew ?_ | refine Kept.then_drewN ?_ _ | refine Kept.then_alloc ?_ _)) : All w7 _) hw8)))
      all_goals
       simp only [HIN.out];have hwr:=hwq.trans hp8;clear x0 x1 x2 x3 x4 x5 x6 y0 y2;obtain ⟨x0,x1,x2,x3,x4,x5,x6⟩:=HD.out _ hwr;obtain ⟨y0,y2⟩:=HE.out _ hwr;by_cases hE : by_.size = 0
       case pos =>
        have hte:=strs_emp hE;have HEQ:=Lib.hid (revF_ok (r:=(⟨no,tm,paper,person,by_,done,ans⟩ : Rev)) PN.out PM.out PB.out HIN.out (fun h=>h.1 hE));clear hE PB HIN PN PM;by_cases hL : by_ = person
        case pos =>
         (have hel : (by_.toList == person.toList) = true:=by rw [strs_eq]; exact decide_eq_true hL);have hfin:=Lib.hid (show er = 14 from by rw [HER.out]; exact HEQ.out.trans (if_pos hL));clear hL;(go_wp2_with fail);go_ret;exact ⟨ret_int' hfin.out.symm,hk1.trans hwr⟩
        case neg =>
         (have hel : (by_.toList == person.toList) = false:=by rw [strs_eq]; exact decide_eq_false hL);have HEQ2:=Lib.hid (HEQ.out.trans (if_neg hL));obtain ⟨f,hf⟩ : ∃ f,f = answersF s.sheet ans:=⟨_,rfl⟩;have HF:=Lib.hid hf;clear hf hL HEQ;(go_wp2_with fail);refine (answersFault_any a0 l0 c0 s.sheet aa la ac ans _ (HI.out.keep hwr).sheet (by have:=HI.out.n0; omega) (HA.out.keep RAns.ok hwr) (HG.out.keep hwr).tab).mono ?_;rintro e w9 ⟨rfl,hw9'⟩;rw [← HF.out];have hw9:=hwr.trans hw9';clear x0 x1 x2 x3 x4 x5 x6 y0 y2 hw9';obtain ⟨x0,x1,x2,x3,x4,x5,x6⟩:=HD.out _ hw9;obtain ⟨y0,y2⟩:=HE.out _ hw9;by_cases hf0 : f = 0
         case neg =>
          (have hne : (f != 0) = true:=by simpa using hf0);have hfin:=Lib.hid (show er = f from by rw [HER.out]; exact (HEQ2.out.trans (if_pos (by rw [← HF.out]; exact hf0))).trans HF.out.symm);(go_wp2_with fail);go_ret;exact ⟨ret_int' hfin.out.symm,hk1.trans hw9⟩
         case pos =>
          subst hf0;have HEQ3:=Lib.hid (HEQ2.out.trans (if_neg (by rw [← HF.out]; simp)));clear HEQ2 HF
          cases done with
          | false =>
           have hfin:=Lib.hid (show er = 0 from by rw [HER.out]; exact HEQ3.out.trans (if_neg (fun h=>by cases h.1)));(go_wp2_with fail);go_ret;exact ⟨ret_int' hfin.out.symm,hk1.trans hw9⟩
          | true =>
           (go_wp2_with fail);refine (missingQ_any a0 l0 c0 s.sheet aa la ac ans _ (HI.out.keep hw9).sheet (by have:=HI.out.n0; omega) (HA.out.keep RAns.ok hw9) (by omega)).mono ?_;intro e w10 hp;obtain ⟨v,rfl,acm,hw10⟩:=hp;obtain ⟨am,cm,rfl,-⟩:=acm.form;clear acm;obtain ⟨mm,hmm⟩ : ∃ m,m = (missF s.sheet ans).length:=⟨_,rfl⟩;have HMM:=Lib.hid hmm;rw [← hmm];clear hmm;have hwz:=hw9.trans hw10;clear hw10;by_cases hm0 : 0 < mm
           case pos =>
            (have hd9 : decide (0 < mm) = true:=by simpa using hm0);have hfin:=Lib.hid (show er = 3 from by rw [HER.out]; exact HEQ3.out.trans (if_pos ⟨by simp,by rw [← HMM.out]; exact hm0⟩));(go_wp2_with fail);go_ret;exact ⟨ret_int' hfin.out.symm,hk1.trans hwz⟩
           case neg =>
            (have hd9 : decide (0 < mm) = false:=by simpa using hm0);have hfin:=Lib.hid (show er = 0 from by rw [HER.out]; exact HEQ3.out.trans (if_neg (fun h=>hm0 (by rw [HMM.out]; exact h.2))));(go_wp2_with fail);go_ret;exact ⟨ret_int' hfin.out.symm,hk1.trans hwz⟩
       case neg =>
        have hte:=strs_nemp hE
        cases hK : isKeyB by_ with
        | false =>
         have hfin:=Lib.hid (show er = 5 from by rw [HER.out]; exact revF_name PN.out PM.out PB.out HIN.out ⟨hE,hK⟩);(go_wp2_with fail);refine (isKey_any by_ _ (by omega)).mono ?_;rintro e wz ⟨rfl,hh⟩;subst hh;rw [hK];(go_wp2_with fail);go_ret;exact ⟨ret_int' hfin.out.symm,hk1.trans hwr⟩
        | true =>
         have HEQ:=Lib.hid (revF_ok (r:=(⟨no,tm,paper,person,by_,done,ans⟩ : Rev)) PN.out PM.out PB.out HIN.out (fun h=>by simp [hK] at h));clear hE PB HIN PN PM;(go_wp2_with fail);refine (isKey_any by_ _ (by omega)).mono ?_;rintro e wz ⟨rfl,hh⟩;subst hh;rw [hK];clear hK;by_cases hL : by_ = person
         case pos =>
          (have hel : (by_.toList == person.toList) = true:=by rw [strs_eq]; exact decide_eq_true hL);have hfin:=Lib.hid (show er = 14 from by rw [HER.out]; exact HEQ.out.trans (if_pos hL));clear hL;(go_wp2_with fail);go_ret;exact ⟨ret_int' hfin.out.symm,hk1.trans hwr⟩
         case neg =>
          (have hel : (by_.toList == person.toList) = false:=by rw [strs_eq]; exact decide_eq_false hL);have HEQ2:=Lib.hid (HEQ.out.trans (if_neg hL));obtain ⟨f,hf⟩ : ∃ f,f = answersF s.sheet ans:=⟨_,rfl⟩;have HF:=Lib.hid hf;clear hf hL HEQ;(go_wp2_with fail);refine (answersFault_any a0 l0 c0 s.sheet aa la ac ans _ (HI.out.keep hwr).sheet (by have:=HI.out.n0; omega) (HA.out.keep RAns.ok hwr) (HG.out.keep hwr).tab).mono ?_;rintro e w9 ⟨rfl,hw9'⟩;rw [← HF.out];have hw9:=hwr.trans hw9';clear x0 x1 x2 x3 x4 x5 x6 y0 y2 hw9';obtain ⟨x0,x1,x2,x3,x4,x5,x6⟩:=HD.out _ hw9;obtain ⟨y0,y2⟩:=HE.out _ hw9;by_cases hf0 : f = 0
          case neg =>
           (have hne : (f != 0) = true:=by simpa using hf0);have hfin:=Lib.hid (show er = f from by rw [HER.out]; exact (HEQ2.out.trans (if_pos (by rw [← HF.out]; exact hf0))).trans HF.out.symm);(go_wp2_with fail);go_ret;exact ⟨ret_int' hfin.out.symm,hk1.trans hw9⟩
          case pos =>
           subst hf0;have HEQ3:=Lib.hid (HEQ2.out.trans (if_neg (by rw [← HF.out]; simp)));clear HEQ2 HF
           cases done with
           | false =>
            have hfin:=Lib.hid (show er = 0 from by rw [HER.out]; exact HEQ3.out.trans (if_neg (fun h=>by cases h.1)));(go_wp2_with fail);go_ret;exact ⟨ret_int' hfin.out.symm,hk1.trans hw9⟩
           | true =>
            (go_wp2_with fail);refine (missingQ_any a0 l0 c0 s.sheet aa la ac ans _ (HI.out.keep hw9).sheet (by have:=HI.out.n0; omega) (HA.out.keep RAns.ok hw9) (by omega)).mono ?_;intro e w10 hp;obtain ⟨v,rfl,acm,hw10⟩:=hp;obtain ⟨am,cm,rfl,-⟩:=acm.form;clear acm;obtain ⟨mm,hmm⟩ : ∃ m,m = (missF s.sheet ans).length:=⟨_,rfl⟩;have HMM:=Lib.hid hmm;rw [← hmm];clear hmm;have hwz:=hw9.trans hw10;clear hw10;by_cases hm0 : 0 < mm
            case pos =>
             (have hd9 : decide (0 < mm) = true:=by simpa using hm0);have hfin:=Lib.hid (show er = 3 from by rw [HER.out]; exact HEQ3.out.trans (if_pos ⟨by simp,by rw [← HMM.out]; exact hm0⟩));(go_wp2_with fail);go_ret;exact ⟨ret_int' hfin.out.symm,hk1.trans hwz⟩
            case neg =>
             (have hd9 : decide (0 < mm) = false:=by simpa using hm0);have hfin:=Lib.hid (show er = 0 from by rw [HER.out]; exact HEQ3.out.trans (if_neg (fun h=>hm0 (by rw [HMM.out]; exact h.2))));(go_wp2_with fail);go_ret;exact ⟨ret_int' hfin.out.symm,hk1.trans hwz⟩

set_option maxRecDepth 100000 in
set_option maxHeartbeats 12800000 in
theorem reviewFaultR_any (a0 : Option Addr) (l0 c0 : Nat) (a1 : Option Addr) (l1 c1 : Nat) (a2 : Option Addr) (l2 c2 : Nat) (a3 : Option Addr) (l3 c3 : Nat) (a4 : Option Addr) (l4 c4 : Nat) (s : Set7) (nq : Nat) (lt : Int) (prev : Option Rev) (no tm : Int) (paper person by_ : ByteArray) (done : Bool) (ans : List Ans4) (aa : Option Addr) (la ac : Nat) (w : World) (h : SetIs (fun _=>True) w a0 l0 a1 l1 a2 l2 a3 l3 a4 l4 s) (hlt : ∀ z : Int,0≤z→decide (z < lt) = backB prev z)
  (hz3 : by_.size≤1000000) (hla : la≤1000) (ha : Sl RAns 4 (fun _=>True) w aa la ans) (hg : Glob w) :
  Calls Tryz.prog 108 #[.agg #[.slice a0 l0 c0,.slice a1 l1 c1,.slice a2 l2 c2,.slice a3 l3 c3,.slice a4 l4 c4,.int .i64 s.due,.int .i64 s.reply],.agg #[.int .i64 no,.int .i64 tm,.string paper,.string person,.string by_,.bool done,.slice aa la ac],.int .i64 nq,.int .i64 lt] w fun e w'=>e = .returned (.int .i64 (revF s nq prev (⟨no,tm,paper,person,by_,done,ans⟩ : Rev)))∧All w w':=by
 have hk1 : All w ((w.alloc (.cells #[.slice a0 l0 c0,.slice a1 l1 c1,.slice a2 l2 c2,.slice a3 l3 c3,.slice a4 l4 c4,.int .i64 s.due,.int .i64 s.reply] 31)).alloc (.cells #[.int .i64 no,.int .i64 tm,.string paper,.string person,.string by_,.bool done,.slice aa la ac] 73)):=(Kept.alloc _ _ _).then_alloc _;have hbs1:=heap_old (.cells #[.int .i64 no,.int .i64 tm,.string paper,.string person,.string by_,.bool done,.slice aa la ac] 73) (heap_at w (.cells #[.slice a0 l0 c0,.slice a1 l1 c1,.slice a2 l2 c2,.slice a3 l3 c3,.slice a4 l4 c4,.int .i64 s.due,.int .i64 s.reply] 31) _ rfl);have hbr1:=heap_at (w.alloc (.cells #[.slice a0 l0 c0,.slice a1 l1 c1,.slice a2 l2 c2,.slice a3 l3 c3,.slice a4 l4 c4,.int .i64 s.due,.int .i64 s.reply] 31)) (.cells #[.int .i64 no,.int .i64 tm,.string paper,.string person,.string by_,.bool done,.slice aa la ac] 73) (w.heap.size+1) (by simp);have HI:=Lib.hid (h.keep hk1);have HG:=Lib.hid (hg.keep hk1);have HA:=Lib.hid (ha.keep RAns.ok hk1);have HLTB:=Lib.hid hlt;clear hlt;have e0:=cell_at (i:=0) hbs1 rfl;have e2:=cell_at (i:=2) hbs1 rfl;have d0:=cell_at (i:=0) hbr1 rfl;have d1:=cell_at (i:=1) hbr1 rfl;have d2:=cell_at (i:=2) hbr1 rfl;have d3:=cell_at (i:=3) hbr1 rfl;have d4:=cell_at (i:=4) hbr1 rfl;have d5:=cell_at (i:=5) hbr1 rfl;have d6:=cell_at (i:=6) hbr1 rfl;clear hbs1 hbr1 h hg ha;obtain ⟨er,her⟩ : ∃ e,e = revF s nq prev (⟨no,tm,paper,person,by_,done,ans⟩ : Rev):=⟨_,rfl⟩;have HER:=Lib.hid her;rw [← her];clear her;obtain ⟨bb,hbb⟩ : ∃ b,b = w.heap.size:=⟨_,rfl⟩;obtain ⟨rb,hrb⟩ : ∃ b,b = w.heap.size+1:=⟨_,rfl⟩;have Hbb:=Lib.hid hbb;have Hrb:=Lib.hid hrb;have Hsz:=Lib.hid (show (w.alloc (.cells #[.slice a0 l0 c0,.slice a1 l1 c1,.slice a2 l2 c2,.slice a3 l3 c3,.slice a4 l4 c4,.int .i64 s.due,.int .i64 s.reply] 31)).heap.size = w.heap.size+1 by simp);rw [← hbb] at e0 e2;rw [← hrb] at d0 d1 d2 d3 d4 d5 d6;clear hbb hrb;have HE:=Lib.hid (show ∀ (wx : World),All ((w.alloc (.cells #[.slice a0 l0 c0,.slice a1 l1 c1,.slice a2 l2 c2,.slice a3 l3 c3,.slice a4 l4 c4,.int .i64 s.due,.int .i64 s.reply] 31)).alloc (.cells #[.int .i64 no,.int .i64 tm,.string paper,.string person,.string by_,.bool done,.slice aa la ac] 73)) wx→wx.cell? ⟨bb,0,none⟩ = some (.slice a0 l0 c0)∧wx.cell? ⟨bb,2,none⟩ = some (.slice a2 l2 c2) from fun wx k=>⟨k.cell e0 trivial,k.cell e2 trivial⟩);have HD:=Lib.hid (show ∀ (wx : World),All ((w.alloc (.cells #[.slice a0 l0 c0,.slice a1 l1 c1,.slice a2 l2 c2,.slice a3 l3 c3,.slice a4 l4 c4,.int .i64 s.due,.int .i64 s.reply] 31)).alloc (.cells #[.int .i64 no,.int .i64 tm,.string paper,.string person,.string by_,.bool done,.slice aa la ac] 73)) wx→wx.cell? ⟨rb,0,none⟩ = some (.int .i64 no)∧wx.cell? ⟨rb,1,none⟩ = some (.int .i64 tm)∧wx.cell? ⟨rb,2,none⟩ = some (.string paper)∧wx.cell? ⟨rb,3,none⟩ = some (.string person)∧wx.cell? ⟨rb,4,none⟩ = some (.string by_)∧wx.cell? ⟨rb,5,none⟩ = some (.bool done)∧wx.cell? ⟨rb,6,none⟩ = some (.slice aa la ac) from fun wx k=>⟨k.cell d0 trivial,k.cell d1 trivial,k.cell d2 trivial,k.cell d3 trivial,k.cell d4 trivial,k.cell d5 trivial,k.cell d6 trivial⟩);(go_enter Tryz.func108,Tryz.ntmps108);(go_upto_region 1 with fail);simp only [← Hrb.out];simp only [← Hbb.out];clear Hbb Hrb Hsz;generalize (w.alloc (.cells #[.slice a0 l0 c0,.slice a1 l1 c1,.slice a2 l2 c2,.slice a3 l3 c3,.slice a4 l4 c4,.int .i64 s.due,.int .i64 s.reply] 31)).alloc (.cells #[.int .i64 no,.int .i64 tm,.string paper,.string person,.string by_,.bool done,.slice aa la ac] 73) = w1 at *;by_cases hN : no = (nq : Int)
 case neg =>
  have hd : (no != (nq : Int)) = true:=ne_true hN;have hfin:=Lib.hid (show er = 1 from by rw [HER.out]; exact revF_arg (Or.inl hN));(go_wp2_with fail);go_ret;exact ⟨ret_int' hfin.out.symm,hk1⟩
 case pos =>
  have hd : (no != (nq : Int)) = false:=eq_false hN;have PN:=Lib.hid hN;clear hN;by_cases hM : 0≤tm∧tm < 5761440
  case neg =>
   have hfin:=Lib.hid (show er = 1 from by rw [HER.out]; exact revF_arg (Or.inr hM));(go_wp2_with fail);refine (moment_any tm _).mono ?_;rintro e wz ⟨rfl,hh⟩;subst hh;rw [show decide (0≤tm∧tm < 5761440) = false by simpa using hM];(go_wp2_with fail);go_ret;exact ⟨ret_int' hfin.out.symm,hk1⟩
  case pos =>
   have PM:=Lib.hid hM;(go_wp2_with fail);refine (moment_any tm _).mono ?_;rintro e wz ⟨rfl,hh⟩;subst hh;rw [show decide (0≤tm∧tm < 5761440) = true by simpa using hM];have hM0 : 0≤tm:=hM.1;clear hM
   cases hord : backB prev tm with
   | true =>
    have hdl : decide (tm < lt) = true:=(HLTB.out tm hM0).trans hord;have hfin:=Lib.hid (show er = 7 from by rw [HER.out]; exact revF_order PN.out PM.out hord);(go_wp2_with fail);go_ret;exact ⟨ret_int' hfin.out.symm,hk1⟩
   | false =>
    have hdl : decide (tm < lt) = false:=(HLTB.out tm hM0).trans hord;have PB:=Lib.hid hord;have hwq : All w1 w1:=Kept.refl _ _;clear hord
    cases hin : inP s.pairs paper person with
    | false =>
     have hfin:=Lib.hid (show er = 8 from by rw [HER.out]; exact revF_none PN.out PM.out PB.out hin);have HIN:=Lib.hid hin;clear hin;obtain ⟨y0,y2⟩:=HE.out _ hwq;obtain ⟨x0,x1,x2,x3,x4,x5,x6⟩:=HD.out _ hwq;(go_wp2_with fail);refine (containsP_any a2 l2 c2 s.pairs paper person _ (HI.out.keep hwq).pairs HI.out.n2).mono ?_;rintro e w8 ⟨rfl,hw8⟩;rw [HIN.out];have hwr:=hwq.trans hw8;clear x0 x1 x2 x3 x4 x5 x6 y0 y2 hw8;clear PB;(go_wp2_with fail);go_ret;exact ⟨ret_int' hfin.out.symm,hk1.trans hwr⟩
    | true =>
     have HIN:=Lib.hid hin;clear hin;obtain ⟨y0,y2⟩:=HE.out _ hwq;obtain ⟨x0,x1,x2,x3,x4,x5,x6⟩:=HD.out _ hwq;(go_wp2_with fail);refine (containsP_any a2 l2 c2 s.pairs paper person _ (HI.out.keep hwq).pairs HI.out.n2).mono ?_;rintro e w8 ⟨rfl,hw8⟩;rw [HIN.out];have hwr:=hwq.trans hw8;clear x0 x1 x2 x3 x4 x5 x6 y0 y2 hw8;obtain ⟨x0,x1,x2,x3,x4,x5,x6⟩:=HD.out _ hwr;obtain ⟨y0,y2⟩:=HE.out _ hwr;by_cases hE : by_.size = 0
     case pos =>
      have hte:=strs_emp hE;have HEQ:=Lib.hid (revF_ok (r:=(⟨no,tm,paper,person,by_,done,ans⟩ : Rev)) PN.out PM.out PB.out HIN.out (fun h=>h.1 hE));clear hE PB HIN PN PM;by_cases hL : by_ = person
      case pos =>
       (have hel : (by_.toList == person.toList) = true:=by rw [strs_eq]; exact decide_eq_true hL);have hfin:=Lib.hid (show er = 14 from by rw [HER.out]; exact HEQ.out.trans (if_pos hL));clear hL;(go_wp2_with fail);go_ret;exact ⟨ret_int' hfin.out.symm,hk1.trans hwr⟩
      case neg =>
       (have hel : (by_.toList == person.toList) = false:=by rw [strs_eq]; exact decide_eq_false hL);have HEQ2:=Lib.hid (HEQ.out.trans (if_neg hL));obtain ⟨f,hf⟩ : ∃ f,f = answersF s.sheet ans:=⟨_,rfl⟩;have HF:=Lib.hid hf;clear hf hL HEQ;(go_wp2_with fail);refine (answersFaultR_any a0 l0 c0 s.sheet aa la ac ans _ (HI.out.keep hwr).sheet (by have:=HI.out.n0; omega) (HA.out.keep RAns.ok hwr) (HG.out.keep hwr).tab).mono ?_;rintro e w9 ⟨rfl,hw9'⟩;rw [← HF.out];have hw9:=hwr.trans hw9';clear x0 x1 x2 x3 x4 x5 x6 y0 y2 hw9';obtain ⟨x0,x1,x2,x3,x4,x5,x6⟩:=HD.out _ hw9;obtain ⟨y0,y2⟩:=HE.out _ hw9;by_cases hf0 : f = 0
       case neg =>
        (have hne : (f != 0) = true:=by simpa using hf0);have hfin:=Lib.hid (show er = f from by rw [HER.out]; exact (HEQ2.out.trans (if_pos (by rw [← HF.out]; exact hf0))).trans HF.out.symm);(go_wp2_with fail);go_ret;exact ⟨ret_int' hfin.out.symm,hk1.trans hw9⟩
       case pos =>
        subst hf0;have HEQ3:=Lib.hid (HEQ2.out.trans (if_neg (by rw [← HF.out]; simp)));clear HEQ2 HF
        cases done with
        | false =>
         have hfin:=Lib.hid (show er = 0 from by rw [HER.out]; exact HEQ3.out.trans (if_neg (fun h=>by cases h.1)));(go_wp2_with fail);go_ret;exact ⟨ret_int' hfin.out.symm,hk1.trans hw9⟩
        | true =>
         (go_wp2_with fail);refine (missingOf_any a0 l0 c0 s.sheet aa la ac ans _ (HI.out.keep hw9).sheet (by have:=HI.out.n0; omega) (HA.out.keep RAns.ok hw9) (by omega)).mono ?_;intro e w10 hp;obtain ⟨v,rfl,acm,hw10⟩:=hp;obtain ⟨am,cm,rfl,-⟩:=acm.form;clear acm;obtain ⟨mm,hmm⟩ : ∃ m,m = (missF s.sheet ans).length:=⟨_,rfl⟩;have HMM:=Lib.hid hmm;rw [← hmm];clear hmm;have hwz:=hw9.trans hw10;clear hw10;by_cases hm0 : 0 < mm
         case pos =>
          (have hd9 : decide (0 < mm) = true:=by simpa using hm0);have hfin:=Lib.hid (show er = 3 from by rw [HER.out]; exact HEQ3.out.trans (if_pos ⟨by simp,by rw [← HMM.out]; exact hm0⟩));(go_wp2_with fail);go_ret;exact ⟨ret_int' hfin.out.symm,hk1.trans hwz⟩
         case neg =>
          (have hd9 : decide (0 < mm) = false:=by simpa using hm0);have hfin:=Lib.hid (show er = 0 from by rw [HER.out]; exact HEQ3.out.trans (if_neg (fun h=>hm0 (by rw [HMM.out]; exact h.2))));(go_wp2_with fail);go_ret;exact ⟨ret_int' hfin.out.symm,hk1.trans hwz⟩
     case neg =>
      have hte:=strs_nemp hE
      cases hK : isKeyB by_ with
      | false =>
       have hfin:=Lib.hid (show er = 5 from by rw [HER.out]; exact revF_name PN.out PM.out PB.out HIN.out ⟨hE,hK⟩);(go_wp2_with fail);refine (key_any by_ _ (by omega)).mono ?_;rintro e wz ⟨rfl,hh⟩;have hwr2:=hwr.trans hh;rw [hK];(go_wp2_with fail);go_ret;exact ⟨ret_int' hfin.out.symm,hk1.trans hwr2⟩
      | true =>
       have HEQ:=Lib.hid (revF_ok (r:=(⟨no,tm,paper,person,by_,done,ans⟩ : Rev)) PN.out PM.out PB.out HIN.out (fun h=>by simp [hK] at h));clear hE PB HIN PN PM;(go_wp2_with fail);refine (key_any by_ _ (by omega)).mono ?_;rintro e wz ⟨rfl,hh⟩;have hwr2:=hwr.trans hh;rw [hK];clear hK;clear x0 x1 x2 x3 x4 x5 x6 y0 y2;obtain ⟨x0,x1,x2,x3,x4,x5,x6⟩:=HD.out _ hwr2;obtain ⟨y0,y2⟩:=HE.out _ hwr2;by_cases hL : by_ = person
       case pos =>
        (have hel : (by_.toList == person.toList) = true:=by rw [strs_eq]; exact decide_eq_true hL);have hfin:=Lib.hid (show er = 14 from by rw [HER.out]; exact HEQ.out.trans (if_pos hL));clear hL;(go_wp2_with fail);go_ret;exact ⟨ret_int' hfin.out.symm,hk1.trans hwr2⟩
       case neg =>
        (have hel : (by_.toList == person.toList) = false:=by rw [strs_eq]; exact decide_eq_false hL);have HEQ2:=Lib.hid (HEQ.out.trans (if_neg hL));obtain ⟨f,hf⟩ : ∃ f,f = answersF s.sheet ans:=⟨_,rfl⟩;have HF:=Lib.hid hf;clear hf hL HEQ;(go_wp2_with fail);refine (answersFaultR_any a0 l0 c0 s.sheet aa la ac ans _ (HI.out.keep hwr2).sheet (by have:=HI.out.n0; omega) (HA.out.keep RAns.ok hwr2) (HG.out.keep hwr2).tab).mono ?_;rintro e w9 ⟨rfl,hw9'⟩;rw [← HF.out];have hw9:=hwr2.trans hw9';clear x0 x1 x2 x3 x4 x5 x6 y0 y2 hw9';obtain ⟨x0,x1,x2,x3,x4,x5,x6⟩:=HD.out _ hw9;obtain ⟨y0,y2⟩:=HE.out _ hw9;by_cases hf0 : f = 0
        case neg =>
         (have hne : (f != 0) = true:=by simpa using hf0);have hfin:=Lib.hid (show er = f from by rw [HER.out]; exact (HEQ2.out.trans (if_pos (by rw [← HF.out]; exact hf0))).trans HF.out.symm);(go_wp2_with fail);go_ret;exact ⟨ret_int' hfin.out.symm,hk1.trans hw9⟩
        case pos =>
         subst hf0;have HEQ3:=Lib.hid (HEQ2.out.trans (if_neg (by rw [← HF.out]; simp)));clear HEQ2 HF
         cases done with
         | false =>
          have hfin:=Lib.hid (show er = 0 from by rw [HER.out]; exact HEQ3.out.trans (if_neg (fun h=>by cases h.1)));(go_wp2_with fail);go_ret;exact ⟨ret_int' hfin.out.symm,hk1.trans hw9⟩
         | true =>
          (go_wp2_with fail);refine (missingOf_any a0 l0 c0 s.sheet aa la ac ans _ (HI.out.keep hw9).sheet (by have:=HI.out.n0; omega) (HA.out.keep RAns.ok hw9) (by omega)).mono ?_;intro e w10 hp;obtain ⟨v,rfl,acm,hw10⟩:=hp;obtain ⟨am,cm,rfl,-⟩:=acm.form;clear acm;obtain ⟨mm,hmm⟩ : ∃ m,m = (missF s.sheet ans).length:=⟨_,rfl⟩;have HMM:=Lib.hid hmm;rw [← hmm];clear hmm;have hwz:=hw9.trans hw10;clear hw10;by_cases hm0 : 0 < mm
          case pos =>
           (have hd9 : decide (0 < mm) = true:=by simpa using hm0);have hfin:=Lib.hid (show er = 3 from by rw [HER.out]; exact HEQ3.out.trans (if_pos ⟨by simp,by rw [← HMM.out]; exact hm0⟩));(go_wp2_with fail);go_ret;exact ⟨ret_int' hfin.out.symm,hk1.trans hwz⟩
          case neg =>
           (have hd9 : decide (0 < mm) = false:=by simpa using hm0);have hfin:=Lib.hid (show er = 0 from by rw [HER.out]; exact HEQ3.out.trans (if_neg (fun h=>hm0 (by rw [HMM.out]; exact h.2))));(go_wp2_with fail);go_ret;exact ⟨ret_int' hfin.out.symm,hk1.trans hwz⟩
end Go.Proofs.YtjbaijgdkkccbaaGreatDoor

/- Check and ReviewsFault answer revsF. -/
namespace Go.Proofs.YtjbaijgdkkccbaaGreatDoor
open Go.RowKit

set_option maxRecDepth 100000 in
set_option maxHeartbeats 12800000 in
theorem check_any (a0 : Option Addr) (l0 c0 : Nat) (a1 : Option Addr) (l1 c1 : Nat) (a2 : Option Addr) (l2 c2 : Nat) (a3 : Option Addr) (l3 c3 : Nat) (a4 : Option Addr) (l4 c4 : Nat) (s : Set7) (al : Option Addr) (ll cl : Nat) (xs : List Rev) (w : World) (h : SetIs (fun _=>True) w a0 l0 a1 l1 a2 l2 a3 l3 a4 l4 s) (hs : Sl RRev 7 (fun _=>True) w al ll xs) (hl : ll≤1000000) (hlc : ll≤cl) (hg : Glob w) :
  Calls Tryz.prog 73 #[.agg #[.slice a0 l0 c0,.slice a1 l1 c1,.slice a2 l2 c2,.slice a3 l3 c3,.slice a4 l4 c4,.int .i64 s.due,.int .i64 s.reply],.slice al ll cl] w fun e w'=>e = .returned (.int .i64 (revsF s xs))∧All w w':=by
 have hk1 : All w (w.alloc (.cells #[.slice a0 l0 c0,.slice a1 l1 c1,.slice a2 l2 c2,.slice a3 l3 c3,.slice a4 l4 c4,.int .i64 s.due,.int .i64 s.reply] 31)):=Kept.alloc _ _ _;have hblk:=heap_at w (.cells #[.slice a0 l0 c0,.slice a1 l1 c1,.slice a2 l2 c2,.slice a3 l3 c3,.slice a4 l4 c4,.int .i64 s.due,.int .i64 s.reply] 31) _ rfl;have hB : SetAt w.heap.size (.slice a0 l0 c0) (.slice a1 l1 c1) (.slice a2 l2 c2) (.slice a3 l3 c3) (.slice a4 l4 c4) s.due s.reply (w.alloc (.cells #[.slice a0 l0 c0,.slice a1 l1 c1,.slice a2 l2 c2,.slice a3 l3 c3,.slice a4 l4 c4,.int .i64 s.due,.int .i64 s.reply] 31)):=⟨cell_at (i:=0) hblk rfl,cell_at (i:=1) hblk rfl,cell_at (i:=2) hblk rfl,cell_at (i:=3) hblk rfl,cell_at (i:=4) hblk rfl,cell_at (i:=5) hblk rfl,cell_at (i:=6) hblk rfl⟩;have HI:=Lib.hid (h.keep hk1);have HG:=Lib.hid (hg.keep hk1);have HS:=Lib.hid (hs.keep RRev.ok hk1);have HL:=Lib.hid hs.len;obtain ⟨bb,hbb⟩ : ∃ b,b = w.heap.size:=⟨_,rfl⟩;have Hbb:=Lib.hid hbb;rw [← hbb] at hB;clear hbb hblk h hg hs;obtain ⟨er,her⟩ : ∃ e,e = revsF s xs:=⟨_,rfl⟩;have HER:=Lib.hid her;rw [← her];clear her;obtain ⟨z1,hz1⟩ : ∃ z,z = setupF s:=⟨_,rfl⟩;have HZ1:=Lib.hid hz1;clear hz1;(go_enter Tryz.func73,Tryz.ntmps73);obtain ⟨e0,e1,e2,e3,e4,e5,e6⟩:=hB;(go_wp2_with fail);rw [← Hbb.out];have HB:=Lib.hid (show SetAt bb (.slice a0 l0 c0) (.slice a1 l1 c1) (.slice a2 l2 c2) (.slice a3 l3 c3) (.slice a4 l4 c4) s.due s.reply (w.alloc (.cells #[.slice a0 l0 c0,.slice a1 l1 c1,.slice a2 l2 c2,.slice a3 l3 c3,.slice a4 l4 c4,.int .i64 s.due,.int .i64 s.reply] 31)) from ⟨e0,e1,e2,e3,e4,e5,e6⟩);clear Hbb e0 e1 e2 e3 e4 e5 e6;generalize w.alloc (.cells #[.slice a0 l0 c0,.slice a1 l1 c1,.slice a2 l2 c2,.slice a3 l3 c3,.slice a4 l4 c4,.int .i64 s.due,.int .i64 s.reply] 31) = w1 at *;refine (checkSetup_any a0 l0 c0 a1 l1 c1 a2 l2 c2 a3 l3 c3 a4 l4 c4 s _ HI.out HG.out).mono ?_;rintro e w2 ⟨rfl,hw2⟩;rw [← HZ1.out];by_cases hn1 : z1 = 0
 case neg =>
  (have hne : (z1 != 0) = true:=by simpa using hn1);have hfin:=Lib.hid (show er = z1 from by rw [HER.out]; exact (revsF_setup (by rw [← HZ1.out]; exact hn1)).trans HZ1.out.symm);(go_wp2_with fail);go_ret;exact ⟨ret_int' hfin.out.symm,hk1.trans hw2⟩
 case pos =>
  subst hn1;have P1:=Lib.hid HZ1.out.symm;clear HZ1;by_cases hbig : 3000 < ll
  case pos =>
   (have hd : decide ((3000 : Int) < (ll : Int)) = true:=by simp; omega);have hfin:=Lib.hid (show er = 2 from by rw [HER.out]; exact revsF_large P1.out (by have:=HL.out; omega));(go_wp2_with fail);go_ret;exact ⟨ret_int' hfin.out.symm,hk1.trans hw2⟩
  case neg =>
   (have hd : decide ((3000 : Int) < (ll : Int)) = false:=by simp; omega);have HEQ:=Lib.hid (revsF_some (s:=s) (l:=xs) P1.out (by have:=HL.out; omega));have HSP:=Lib.hid (setupF_rises P1.out).2.2.1;clear hbig;(go_wp2_with fail);go_loopw [19] (fun i wr=>∃ k : Nat,k≤ll∧i = .int .i64 k∧RevAt s xs k∧All w1 wr) (fun i _=>ll - (intOf i).toNat)
   case atStart=>exact ⟨0,Nat.zero_le _,rfl,RevAt.zero _ _,hw2⟩
   case round =>
    clear hw2;obtain ⟨k,hk,rfl,hat,hwr⟩:=hrel;obtain ⟨wo,rfl⟩ : ∃ wo : World,wo = wr:=⟨_,rfl⟩;have HA:=Lib.hid hat
    clear hat
    by_cases hlt : k < ll
    case neg =>
     (have hdk : decide ((k : Int) < (ll : Int)) = false:=by simp; omega);have hfin:=Lib.hid (show er = 0 from by rw [HER.out]; exact HEQ.out.trans (HA.out.ok (by have:=HL.out; omega)));(go_wp2_with fail);go_ret;exact ⟨ret_int' hfin.out.symm,hk1.trans hwr⟩
    case pos =>
     obtain ⟨b,off,⟨no,tm,paper,person,by_,done,ans⟩,aa,ac,ha,-,y0,y1,y2,y3,y4,y5,y6,⟨hz1,hz2,hz3,hz4⟩,hsa,hx,-⟩:=(HS.out.keep RRev.ok hwr).atRev hlt;dsimp only at *;subst ha;have Hx:=Lib.hid hx;obtain ⟨la,hla⟩ : ∃ m,m = ans.length:=⟨_,rfl⟩;rw [← hla] at hsa hz4 y6;clear hx hla;have hka : All wo (wo.alloc (.cells #[.int .i64 no,.int .i64 tm,.string paper,.string person,.string by_,.bool done,.slice aa la ac] 73)):=Kept.alloc _ _ _;have hblk:=heap_at wo (.cells #[.int .i64 no,.int .i64 tm,.string paper,.string person,.string by_,.bool done,.slice aa la ac] 73) _ rfl;have q0:=cell_at (i:=0) hblk rfl;have q1:=cell_at (i:=1) hblk rfl;have q2:=cell_at (i:=2) hblk rfl;have q3:=cell_at (i:=3) hblk rfl;have q4:=cell_at (i:=4) hblk rfl;have q5:=cell_at (i:=5) hblk rfl;have q6:=cell_at (i:=6) hblk rfl;have hwa:=hwr.trans hka;have HSA:=Lib.hid (fun (wx : World) (k : All wo wx)=>hsa.keep RAns.ok k);clear hblk hsa;obtain ⟨e0,e1,e2,e3,e4,e5,e6⟩:=HB.out.keep hwa;obtain ⟨z,hz⟩ : ∃ z,z = revF s (k+1) (xs.take k).getLast? (⟨no,tm,paper,person,by_,done,ans⟩ : Rev):=⟨_,rfl⟩;have HZ:=Lib.hid hz;have HR:=Lib.hid (fun (wx : World) (kx : All wo wx)=>reviewFaultG_any a0 l0 c0 a1 l1 c1 a2 l2 c2 a3 l3 c3 a4 l4 c4 s (some ⟨b,off,none⟩) k cl (xs.take k) no tm paper person by_ done ans aa la ac wx (HI.out.keep (hwr.trans kx)) ((HS.out.keep RRev.ok (hwr.trans kx)).take hk) (by omega) HSP.out hz1 hz2 hz3 hz4 (HSA.out wx kx) (HG.out.keep (hwr.trans kx)));rw [← hz] at HR;clear hz;by_cases hz0 : z = 0
     case neg =>
      (have hne : (z != 0) = true:=by simpa using hz0);have hfin:=Lib.hid (show er = z from by rw [HER.out]; exact HEQ.out.trans (HA.out.bad Hx.out HZ.out.symm hz0));clear hz0;(go_wp2_with fail);(have f1 : (0 : Int)≤(k : Int):=by omega);have f2 : (k : Int)≤(cl : Int):=by omega
      go_region_held3 (fun w'=>w'.cell? ⟨bb,0,none⟩ = some (.slice a0 l0 c0)∧w'.cell? ⟨bb,1,none⟩ = some (.slice a1 l1 c1)∧w'.cell? ⟨bb,2,none⟩ = some (.slice a2 l2 c2)∧w'.cell? ⟨bb,3,none⟩ = some (.slice a3 l3 c3)∧w'.cell? ⟨bb,4,none⟩ = some (.slice a4 l4 c4)∧w'.cell? ⟨bb,5,none⟩ = some (.int .i64 s.due)∧w'.cell? ⟨bb,6,none⟩ = some (.int .i64 s.reply)∧w'.cell? ⟨wo.heap.size,0,none⟩ = some (.int .i64 no)∧w'.cell? ⟨wo.heap.size,1,none⟩ = some (.int .i64 tm)∧w'.cell? ⟨wo.heap.size,2,none⟩ = some (.string paper)∧w'.cell? ⟨wo.heap.size,3,none⟩ = some (.string person)∧w'.cell? ⟨wo.heap.size,4,none⟩ = some (.string by_)∧w'.cell? ⟨wo.heap.size,5,none⟩ = some (.bool done)∧w'.cell? ⟨wo.heap.size,6,none⟩ = some (.slice aa la ac)) (first | go_keep | exact ⟨by assumption,by assumption,by assumption,by assumption,by assumption,by assumption,by assumption,by assumption,by assumption,by assumption,by assumption,by assumption,by assumption,by assumption⟩) (first | (go_at_call 150; refine (HR.out _ (by repeat (first | exact Kept.refl _ _ | refine Kept.then_drew ?_ | refine Kept.then_drewN ?_ _ | refine Kept.then_alloc ?_ _))).mono ?_; rintro e q ⟨rfl,hq⟩; have hp1 : All wo q:=Kept.trans (by repeat (first | exact Kept.refl _ _ | refine Kept.then_drew ?_ | refine Kept.then_drewN ?_ _ | refine Kept.then_alloc ?_ _)) hq; have hpa : All (wo.alloc (.cells #[.int .i64 no,.int .i64 tm,.string paper,.string person,.string by_,.bool done,.slice aa la ac] 73)) q:=Kept.trans (by repeat (first | exact Kept.refl _ _ | refine Kept.then_drew ?_ | refine Kept.then_drewN ?_ _ | refine Kept.then_alloc ?_ _)) hq; obtain ⟨b0,b1,b2,b3,b4,b5,b6⟩:=HB.out.keep (hwa.trans hpa); have r0:=hpa.cell q0 trivial; have r1:=hpa.cell q1 trivial; have r2:=hpa.cell q2 trivial; have r3:=hpa.cell q3 trivial; have r4:=hpa.cell q4 trivial; have r5:=hpa.cell q5 trivial; have r6:=hpa.cell q6 trivial))
      have hwb:=hwr.trans hp1;clear f1 f2;(go_wp2_with fail);go_ret;exact ⟨ret_int' hfin.out.symm,hk1.trans hwb⟩
     case pos =>
      subst hz0;have HNX:=Lib.hid (HA.out.next Hx.out HZ.out.symm);(go_wp2_with fail);(have f1 : (0 : Int)≤(k : Int):=by omega);have f2 : (k : Int)≤(cl : Int):=by omega
      go_region_held3 (fun w'=>w'.cell? ⟨bb,0,none⟩ = some (.slice a0 l0 c0)∧w'.cell? ⟨bb,1,none⟩ = some (.slice a1 l1 c1)∧w'.cell? ⟨bb,2,none⟩ = some (.slice a2 l2 c2)∧w'.cell? ⟨bb,3,none⟩ = some (.slice a3 l3 c3)∧w'.cell? ⟨bb,4,none⟩ = some (.slice a4 l4 c4)∧w'.cell? ⟨bb,5,none⟩ = some (.int .i64 s.due)∧w'.cell? ⟨bb,6,none⟩ = some (.int .i64 s.reply)∧w'.cell? ⟨wo.heap.size,0,none⟩ = some (.int .i64 no)∧w'.cell? ⟨wo.heap.size,1,none⟩ = some (.int .i64 tm)∧w'.cell? ⟨wo.heap.size,2,none⟩ = some (.string paper)∧w'.cell? ⟨wo.heap.size,3,none⟩ = some (.string person)∧w'.cell? ⟨wo.heap.size,4,none⟩ = some (.string by_)∧w'.cell? ⟨wo.heap.size,5,none⟩ = some (.bool done)∧w'.cell? ⟨wo.heap.size,6,none⟩ = some (.slice aa la ac)) (first | go_keep | exact ⟨by assumption,by assumption,by assumption,by assumption,by assumption,by assumption,by assumption,by assumption,by assumption,by assumption,by assumption,by assumption,by assumption,by assumption⟩) (first | (go_at_call 150; refine (HR.out _ (by repeat (first | exact Kept.refl _ _ | refine Kept.then_drew ?_ | refine Kept.then_drewN ?_ _ | refine Kept.then_alloc ?_ _))).mono ?_; rintro e q ⟨rfl,hq⟩; have hp1 : All wo q:=Kept.trans (by repeat (first | exact Kept.refl _ _ | refine Kept.then_drew ?_ | refine Kept.then_drewN ?_ _ | refine Kept.then_alloc ?_ _)) hq; have hpa : All (wo.alloc (.cells #[.int .i64 no,.int .i64 tm,.string paper,.string person,.string by_,.bool done,.slice aa la ac] 73)) q:=Kept.trans (by repeat (first | exact Kept.refl _ _ | refine Kept.then_drew ?_ | refine Kept.then_drewN ?_ _ | refine Kept.then_alloc ?_ _)) hq; obtain ⟨b0,b1,b2,b3,b4,b5,b6⟩:=HB.out.keep (hwa.trans hpa); have r0:=hpa.cell q0 trivial; have r1:=hpa.cell q1 trivial; have r2:=hpa.cell q2 trivial; have r3:=hpa.cell q3 trivial; have r4:=hpa.cell q4 trivial; have r5:=hpa.cell q5 trivial; have r6:=hpa.cell q6 trivial))
      have hwb:=hwr.trans hp1;clear f1 f2;(go_wp2_with fail);go_roundw
      case rel=>exact ⟨k+1,by omega,by go_num,HNX.out,hwb⟩
      case measure=>simp [intOf]; omega
set_option maxRecDepth 100000 in
set_option maxHeartbeats 12800000 in
theorem reviewsFault_any (a0 : Option Addr) (l0 c0 : Nat) (a1 : Option Addr) (l1 c1 : Nat) (a2 : Option Addr) (l2 c2 : Nat) (a3 : Option Addr) (l3 c3 : Nat) (a4 : Option Addr) (l4 c4 : Nat) (s : Set7) (al : Option Addr) (ll cl : Nat) (xs : List Rev) (w : World) (h : SetIs (fun _=>True) w a0 l0 a1 l1 a2 l2 a3 l3 a4 l4 s) (hs : Sl RRev 7 (fun _=>True) w al ll xs) (hl : ll≤1000000) (_hlc : ll≤cl) (hg : Glob w) :
  Calls Tryz.prog 40 #[.agg #[.slice a0 l0 c0,.slice a1 l1 c1,.slice a2 l2 c2,.slice a3 l3 c3,.slice a4 l4 c4,.int .i64 s.due,.int .i64 s.reply],.slice al ll cl] w fun e w'=>e = .returned (.int .i64 (revsF s xs))∧All w w':=by
 have hk1 : All w (w.alloc (.cells #[.slice a0 l0 c0,.slice a1 l1 c1,.slice a2 l2 c2,.slice a3 l3 c3,.slice a4 l4 c4,.int .i64 s.due,.int .i64 s.reply] 31)):=Kept.alloc _ _ _;have hblk:=heap_at w (.cells #[.slice a0 l0 c0,.slice a1 l1 c1,.slice a2 l2 c2,.slice a3 l3 c3,.slice a4 l4 c4,.int .i64 s.due,.int .i64 s.reply] 31) _ rfl;have hB : SetAt w.heap.size (.slice a0 l0 c0) (.slice a1 l1 c1) (.slice a2 l2 c2) (.slice a3 l3 c3) (.slice a4 l4 c4) s.due s.reply (w.alloc (.cells #[.slice a0 l0 c0,.slice a1 l1 c1,.slice a2 l2 c2,.slice a3 l3 c3,.slice a4 l4 c4,.int .i64 s.due,.int .i64 s.reply] 31)):=⟨cell_at (i:=0) hblk rfl,cell_at (i:=1) hblk rfl,cell_at (i:=2) hblk rfl,cell_at (i:=3) hblk rfl,cell_at (i:=4) hblk rfl,cell_at (i:=5) hblk rfl,cell_at (i:=6) hblk rfl⟩;have HI:=Lib.hid (h.keep hk1);have HG:=Lib.hid (hg.keep hk1);have HS:=Lib.hid (hs.keep RRev.ok hk1);have HL:=Lib.hid hs.len;obtain ⟨bb,hbb⟩ : ∃ b,b = w.heap.size:=⟨_,rfl⟩;have Hbb:=Lib.hid hbb;rw [← hbb] at hB;clear hbb hblk h hg hs;obtain ⟨er,her⟩ : ∃ e,e = revsF s xs:=⟨_,rfl⟩;have HER:=Lib.hid her;rw [← her];clear her;obtain ⟨z1,hz1⟩ : ∃ z,z = setupF s:=⟨_,rfl⟩;have HZ1:=Lib.hid hz1;clear hz1;(go_enter Tryz.func40,Tryz.ntmps40);obtain ⟨e0,e1,e2,e3,e4,e5,e6⟩:=hB;(go_wp2_with fail);rw [← Hbb.out];have HB:=Lib.hid (show SetAt bb (.slice a0 l0 c0) (.slice a1 l1 c1) (.slice a2 l2 c2) (.slice a3 l3 c3) (.slice a4 l4 c4) s.due s.reply (w.alloc (.cells #[.slice a0 l0 c0,.slice a1 l1 c1,.slice a2 l2 c2,.slice a3 l3 c3,.slice a4 l4 c4,.int .i64 s.due,.int .i64 s.reply] 31)) from ⟨e0,e1,e2,e3,e4,e5,e6⟩);clear Hbb e0 e1 e2 e3 e4 e5 e6;generalize w.alloc (.cells #[.slice a0 l0 c0,.slice a1 l1 c1,.slice a2 l2 c2,.slice a3 l3 c3,.slice a4 l4 c4,.int .i64 s.due,.int .i64 s.reply] 31) = w1 at *;refine (setupFault_any a0 l0 c0 a1 l1 c1 a2 l2 c2 a3 l3 c3 a4 l4 c4 s _ HI.out HG.out).mono ?_;rintro e w2 ⟨rfl,hw2⟩;rw [← HZ1.out];by_cases hn1 : z1 = 0
 case neg =>
  (have hne : (z1 != 0) = true:=by simpa using hn1);have hfin:=Lib.hid (show er = z1 from by rw [HER.out]; exact (revsF_setup (by rw [← HZ1.out]; exact hn1)).trans HZ1.out.symm);(go_wp2_with fail);go_ret;exact ⟨ret_int' hfin.out.symm,hk1.trans hw2⟩
 case pos =>
  subst hn1;have P1:=Lib.hid HZ1.out.symm;clear HZ1;by_cases hbig : 3000 < ll
  case pos =>
   (have hd : decide ((3000 : Int) < (ll : Int)) = true:=by simp; omega);have hfin:=Lib.hid (show er = 2 from by rw [HER.out]; exact revsF_large P1.out (by have:=HL.out; omega));(go_wp2_with fail);go_ret;exact ⟨ret_int' hfin.out.symm,hk1.trans hw2⟩
  case neg =>
   (have hd : decide ((3000 : Int) < (ll : Int)) = false:=by simp; omega);have HEQ:=Lib.hid (revsF_some (s:=s) (l:=xs) P1.out (by have:=HL.out; omega));have HSP:=Lib.hid (setupF_rises P1.out).2.2.1;clear hbig;(go_wp2_with fail);go_loopw [6,20] (fun lv i wr=>∃ k : Nat,k≤ll∧i = .int .i64 k∧RevAt s xs k∧(∃ t : Int,lv = .int .i64 t∧∀ z : Int,0≤z→decide (z < t) = backB (xs.take k).getLast? z)∧All w1 wr) (fun _ i _=>ll - (intOf i).toNat)
   case atStart=>exact ⟨0,Nat.zero_le _,rfl,RevAt.zero _ _,⟨0,rfl,fun z hz=>by simp [backB]; omega⟩,hw2⟩
   case round =>
    clear hw2;obtain ⟨k,hk,rfl,hat,⟨lt,rfl,hltb⟩,hwr⟩:=hrel;obtain ⟨wo,rfl⟩ : ∃ wo : World,wo = wr:=⟨_,rfl⟩;have HA:=Lib.hid hat
    clear hat
    have HLT:=Lib.hid hltb;clear hltb;by_cases hlt : k < ll
    case neg =>
     (have hdk : decide ((k : Int) < (ll : Int)) = false:=by simp; omega);have hfin:=Lib.hid (show er = 0 from by rw [HER.out]; exact HEQ.out.trans (HA.out.ok (by have:=HL.out; omega)));(go_wp2_with fail);go_ret;exact ⟨ret_int' hfin.out.symm,hk1.trans hwr⟩
    case pos =>
     obtain ⟨b,off,⟨no,tm,paper,person,by_,done,ans⟩,aa,ac,ha,-,y0,y1,y2,y3,y4,y5,y6,⟨hz1,hz2,hz3,hz4⟩,hsa,hx,-⟩:=(HS.out.keep RRev.ok hwr).atRev hlt;dsimp only at *;subst ha;have Hx:=Lib.hid hx;obtain ⟨la,hla⟩ : ∃ m,m = ans.length:=⟨_,rfl⟩;rw [← hla] at hsa hz4 y6;clear hx hla;have hka : All wo (wo.alloc (.cells #[.int .i64 no,.int .i64 tm,.string paper,.string person,.string by_,.bool done,.slice aa la ac] 73)):=Kept.alloc _ _ _;have hblk:=heap_at wo (.cells #[.int .i64 no,.int .i64 tm,.string paper,.string person,.string by_,.bool done,.slice aa la ac] 73) _ rfl;have q0:=cell_at (i:=0) hblk rfl;have q1:=cell_at (i:=1) hblk rfl;have q2:=cell_at (i:=2) hblk rfl;have q3:=cell_at (i:=3) hblk rfl;have q4:=cell_at (i:=4) hblk rfl;have q5:=cell_at (i:=5) hblk rfl;have q6:=cell_at (i:=6) hblk rfl;have hwa:=hwr.trans hka;have HSA:=Lib.hid (fun (wx : World) (k : All wo wx)=>hsa.keep RAns.ok k);clear hblk hsa;obtain ⟨e0,e1,e2,e3,e4,e5,e6⟩:=HB.out.keep hwa;obtain ⟨z,hz⟩ : ∃ z,z = revF s (k+1) (xs.take k).getLast? (⟨no,tm,paper,person,by_,done,ans⟩ : Rev):=⟨_,rfl⟩;have HZ:=Lib.hid hz;have HR:=Lib.hid (fun (wx : World) (kx : All wo wx)=>reviewFaultR_any a0 l0 c0 a1 l1 c1 a2 l2 c2 a3 l3 c3 a4 l4 c4 s (k+1) lt (xs.take k).getLast? no tm paper person by_ done ans aa la ac wx (HI.out.keep (hwr.trans kx)) HLT.out hz3 hz4 (HSA.out wx kx) (HG.out.keep (hwr.trans kx)));rw [← hz] at HR;clear hz;by_cases hz0 : z = 0
     case neg =>
      (have hne : (z != 0) = true:=by simpa using hz0);have hfin:=Lib.hid (show er = z from by rw [HER.out]; exact HEQ.out.trans (HA.out.bad Hx.out HZ.out.symm hz0));clear hz0;(go_wp2_with fail);refine (HR.out _ hka).mono ?_;rintro e w5 ⟨rfl,hw5⟩;have hwb:=hwa.trans hw5;have t1:=hw5.cell q1 trivial;(go_wp2_with fail);go_ret;exact ⟨ret_int' hfin.out.symm,hk1.trans hwb⟩
     case pos =>
      subst hz0;have HNX:=Lib.hid (HA.out.next Hx.out HZ.out.symm);(go_wp2_with fail);refine (HR.out _ hka).mono ?_;rintro e w5 ⟨rfl,hw5⟩;have hwb:=hwa.trans hw5;have t1:=hw5.cell q1 trivial;(go_wp2_with fail);go_roundw
      case rel=>exact ⟨k+1,by omega,by go_num,HNX.out,⟨tm,rfl,fun z hz=>by rw [last_take Hx.out]; rfl⟩,hwb⟩
      case measure=>simp [intOf]; omega
end Go.Proofs.YtjbaijgdkkccbaaGreatDoor
