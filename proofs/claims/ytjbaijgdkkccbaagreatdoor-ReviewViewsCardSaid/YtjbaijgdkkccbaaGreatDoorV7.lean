/- Level of a pair for somebody: book.level, LevelOf. -/
import Derived.Test.YtjbaijgdkkccbaaGreatDoorL1
import Derived.Test.YtjbaijgdkkccbaaGreatDoorRs
import Derived.Test.YtjbaijgdkkccbaaGreatDoorAo
import Derived.Test.YtjbaijgdkkccbaaGreatDoorBr
import Derived.Test.YtjbaijgdkkccbaaGreatDoorAw
import Derived.Test.YtjbaijgdkkccbaaGreatDoorZn
import Derived.Test.YtjbaijgdkkccbaaGreatDoorZc
import Derived.Sort.Grow
import Derived.Laws.AppendOwn
import Derived.Test.YtjbaijgdkkccbaaGreatDoorEt
import Derived.Test.YtjbaijgdkkccbaaGreatDoorYd
import Derived.Sort.LotA
import Derived.Test.YtjbaijgdkkccbaaGreatDoorAi
import Derived.Test.YtjbaijgdkkccbaaGreatDoorBz
import Derived.Test.YtjbaijgdkkccbaaGreatDoorSy
import Derived.Test.YtjbaijgdkkccbaaGreatDoorSz
namespace Go.Proofs.YtjbaijgdkkccbaaGreatDoor
open Go.RowKit

def lvB (ab rb bb eb cb db : Bool) : Int:=if ab=true then (if rb=true then 1 else 0) else if bb=true then 0 else if (eb || cb)=true then 3 else if db=true then 2 else 0
theorem lvB_1 {ab rb bb eb cb db : Bool} (h : (ab && rb)=true) : lvB ab rb bb eb cb db=1:=by revert h; cases ab <;> cases rb <;> simp [lvB]
theorem lvB_0 {ab rb bb eb cb db : Bool} (h : (ab && rb)=false) (h2 : (ab || bb)=true) : lvB ab rb bb eb cb db=0:=by revert h h2; cases ab <;> cases rb <;> cases bb <;> simp [lvB]
theorem lvB_3 {ab rb bb eb cb db : Bool} (h2 : (ab || bb)=false) (h : (eb || cb)=true) : lvB ab rb bb eb cb db=3:=by revert h h2; cases ab <;> cases bb <;> cases eb <;> cases cb <;> simp [lvB]
theorem lvB_2 {ab rb bb eb cb db : Bool} (h2 : (ab || bb)=false) (h : (eb || cb)=false) (h3 : db=true) : lvB ab rb bb eb cb db=2:=by subst h3; revert h h2; cases ab <;> cases bb <;> cases eb <;> cases cb <;> simp [lvB]
theorem lvB_z {ab rb bb eb cb db : Bool} (h2 : (ab || bb)=false) (h : (eb || cb)=false) (h3 : db=false) : lvB ab rb bb eb cb db=0:=by subst h3; revert h h2; cases ab <;> cases bb <;> cases eb <;> cases cb <;> simp [lvB]
theorem levelF_b (s : Set7) (ts : List Raw) (who : ByteArray) (p : Pair2) (tm : Int) : levelF s ts who p tm=lvB (authB s.papers p.paper who) (decide (s.reply≤tm)) (inP s.barred p.paper who) (who.toList == p.person.toList) (memB who s.chairs) (lastO ts (p.paper,who) tm true).isSome:=by
 unfold levelF lvB;by_cases h1 : authB s.papers p.paper who=true
 ·rw [if_pos h1,if_pos h1]; simp
 ·rw [if_neg h1,if_neg h1];by_cases h2 : inP s.barred p.paper who=true
  ·rw [if_pos h2,if_pos h2]
  ·rw [if_neg h2,if_neg h2];by_cases h3 : who=p.person
   ·subst h3; simp
   ·have h4:=bytes_ne h3;simp [h3,h4]
set_option maxRecDepth 100000 in
set_option maxHeartbeats 12800000 in
theorem level_any (a0 : Option Addr) (l0 c0 : Nat) (a1 : Option Addr) (l1 c1 : Nat) (a2 : Option Addr) (l2 c2 : Nat) (a3 : Option Addr) (l3 c3 : Nat) (a4 : Option Addr) (l4 c4 : Nat) (s : Set7) (ts : List Raw) (hts : ts.length≤1000000) (who : ByteArray) (hwho : who.size≤1000000) (p : Pair2) (tm : Int) (kb : Nat) (w : World) (hbk : BookIs w kb #[.slice a0 l0 c0,.slice a1 l1 c1,.slice a2 l2 c2,.slice a3 l3 c3,.slice a4 l4 c4,.int .i64 s.due,.int .i64 s.reply] ts) (his : SetIs (fun _=>True) w a0 l0 a1 l1 a2 l2 a3 l3 a4 l4 s) (hgood : setupF s=0) (hin : ∀ z ∈ ts,inP s.pairs z.1.paper z.1.person=true) :
  Calls Tryz.prog 61 #[.pointer (some ⟨kb,0,none⟩),.string who,.agg #[.string p.paper,.string p.person],.int .i64 tm] w fun e w'=>e=.returned (.int .i64 (levelF s ts who p tm))∧All w w':=by
 have hk1 : All w ((w.alloc (.cells #[.string p.paper,.string p.person] 39)).alloc (.cells #[.string p.paper,.string who] 39)):=(Kept.alloc _ _ _).then_alloc _;have hb1:=heap_old (.cells #[.string p.paper,.string who] 39) (heap_at w (.cells #[.string p.paper,.string p.person] 39) _ rfl);have hb2:=heap_at (w.alloc (.cells #[.string p.paper,.string p.person] 39)) (.cells #[.string p.paper,.string who] 39) (w.heap.size+1) (by simp);obtain ⟨pb,hpb⟩ : ∃ b,b=w.heap.size:=⟨_,rfl⟩;obtain ⟨ob,hob⟩ : ∃ b,b=w.heap.size+1:=⟨_,rfl⟩;have HPB:=Lib.hid hpb;have HOB:=Lib.hid hob;have HOP:=Lib.hid (show ob=pb+1 by omega);rw [← hpb] at hb1;rw [← hob] at hb2;obtain ⟨hr1,-,hr2,hr3⟩:=setupF_rises hgood;have HR1:=Lib.hid hr1;have HR2:=Lib.hid hr2;have HR3:=Lib.hid hr3;have hn1:=his.n1;have hn2:=his.n2;have hn3:=his.n3;have hn4:=his.n4;obtain ⟨mb,B,n,vals,hkb,hrow⟩:=hbk;have HCC:=Lib.hid (fun (wx : World) (k : All ((w.alloc (.cells #[.string p.paper,.string p.person] 39)).alloc (.cells #[.string p.paper,.string who] 39)) wx)=>(⟨k.heap hb1 trivial,k.heap hb2 trivial,(hk1.trans k).heap hkb trivial⟩ : wx.heap[pb]? = _∧wx.heap[ob]? = _∧wx.heap[kb]? = some (.cells #[.slice a0 l0 c0,.slice a1 l1 c1,.slice a2 l2 c2,.slice a3 l3 c3,.slice a4 l4 c4,.int .i64 s.due,.int .i64 s.reply,.map (some mb)] 105 (0,0))));have HIS:=Lib.hid (fun (wx : World) (k : All ((w.alloc (.cells #[.string p.paper,.string p.person] 39)).alloc (.cells #[.string p.paper,.string who] 39)) wx)=>his.keep (hk1.trans k));have HBK:=Lib.hid (fun (wx : World) (k : All ((w.alloc (.cells #[.string p.paper,.string p.person] 39)).alloc (.cells #[.string p.paper,.string who] 39)) wx)=>(⟨mb,B,n,vals,(hk1.trans k).heap hkb trivial,hrow.keep flatRaw (hk1.trans k)⟩ : BookIs wx kb #[.slice a0 l0 c0,.slice a1 l1 c1,.slice a2 l2 c2,.slice a3 l3 c3,.slice a4 l4 c4,.int .i64 s.due,.int .i64 s.reply] ts));obtain ⟨lo,hlo⟩ : ∃ z,z=lastO ts (p.paper,who) tm true:=⟨_,rfl⟩;have HLO:=Lib.hid hlo;have HDB:=Lib.hid (show lo.isSome=true→inP s.pairs p.paper who=true from fun h=>by
  obtain ⟨z,hz,-,-⟩:=lastO_isSome.1 (by rw [← hlo]; exact h);have h1:=hin z (mem_bookF hz);have h2:=of_decide_eq_true (List.mem_filter.1 hz).2;injection h2 with h3 h4;rw [h3,h4] at h1;exact h1)
 rw [levelF_b,← hlo];obtain ⟨ab,hab⟩ : ∃ z,z=authB s.papers p.paper who:=⟨_,rfl⟩;have HAB:=Lib.hid hab;rw [← hab];clear hab;obtain ⟨rb,hrb⟩ : ∃ z,z=decide (s.reply≤tm):=⟨_,rfl⟩;have HRB:=Lib.hid hrb;rw [← hrb];clear hrb;obtain ⟨bb,hbb⟩ : ∃ z,z=inP s.barred p.paper who:=⟨_,rfl⟩;have HBB:=Lib.hid hbb;rw [← hbb];clear hbb;obtain ⟨eb,heb⟩ : ∃ z,z=(who.toList == p.person.toList):=⟨_,rfl⟩;have HEB:=Lib.hid heb;rw [← heb];clear heb;obtain ⟨cb,hcb⟩ : ∃ z,z=memB who s.chairs:=⟨_,rfl⟩;have HCB:=Lib.hid hcb;rw [← hcb];clear hcb;obtain ⟨lv,hlv⟩ : ∃ z,z=lvB ab rb bb eb cb lo.isSome:=⟨_,rfl⟩;have HLV:=Lib.hid hlv;rw [← hlv];clear hlv;have HK1:=Lib.hid hk1;obtain ⟨t1,t2,t3⟩:=HCC.out _ (Kept.refl _ _);have e0:=cell_at (i:=0) t1 rfl;have e1:=cell_at (i:=1) t1 rfl;clear t1 t2 t3 hlo hpb hob hb1 hb2 hr1 hr2 hr3 hkb hrow hk1 his hgood hin;(go_enter Tryz.func61,Tryz.ntmps61);(go_upto_region 2 with fail);simp only [← HPB.out,← HOP.out];generalize (w.alloc (.cells #[.string p.paper,.string p.person] 39)).alloc (.cells #[.string p.paper,.string who] 39)=w1 at *;clear e0 e1;refine wp_region_guard 17 8 25 true (by kernel_rfl) (by kernel_rfl) (by kernel_rfl) (fun _ wx=>All w1 wx)
  (DL [QIs (.pointer (some ⟨kb,0,none⟩)),QIs (.pointer (some ⟨kb,0,none⟩)),QIs (.pointer (some ⟨kb,0,none⟩)),QIs (.agg #[.slice a0 l0 c0,.slice a1 l1 c1,.slice a2 l2 c2,.slice a3 l3 c3,.slice a4 l4 c4,.int .i64 s.due,.int .i64 s.reply]),QIs (.pointer (some ⟨pb,0,none⟩)),QIs (.string p.paper),QIs (.string who),QIs (.bool ab),QIs (.bool ab),QIs (.int .i64 tm),QIs (.pointer (some ⟨kb,0,none⟩)),QIs (.pointer (some ⟨kb,0,none⟩)),QIs (.pointer (some ⟨kb,0,none⟩)),QIs (.pointer (some ⟨kb,6,none⟩)),QIs (.int .i64 s.reply),QIs (.bool rb),QIs (.bool (ab && rb))]) All (fun _=>Kept.refl _ _)
  (DL.keep (by simp only [List.forall_mem_cons,List.not_mem_nil,false_implies,implies_true,and_true]; exact ⟨QIs.stays _,QIs.stays _,QIs.stays _,QIs.stays _,QIs.stays _,QIs.stays _,QIs.stays _,QIs.stays _,QIs.stays _,QIs.stays _,QIs.stays _,QIs.stays _,QIs.stays _,QIs.stays _,QIs.stays _,QIs.stays _,QIs.stays _⟩)) (Kept.drew _ _) (fun _ _ h=>h) (fun v _ h=>⟨_,h⟩) ?_ ?_
 ·intro i o t ho hd hi k' a' wx hk' hg hdf hts hoth hgu hdeps;obtain ⟨t1,t2,t3⟩:=HCC.out wx hg;have p0:=cell_at (i:=0) t1 rfl;have p1:=cell_at (i:=1) t1 rfl;have o0:=cell_at (i:=0) t2 rfl;have o1:=cell_at (i:=1) t2 rfl;have k0:=cell_at (i:=0) t3 rfl;have k1:=cell_at (i:=1) t3 rfl;have k2:=cell_at (i:=2) t3 rfl;have k3:=cell_at (i:=3) t3 rfl;have k4:=cell_at (i:=4) t3 rfl;have k5:=cell_at (i:=5) t3 rfl;have k6:=cell_at (i:=6) t3 rfl;clear t1 t2 t3;(have hz : i=0∨i=1∨i=2∨i=3∨i=4∨i=5∨i=6∨i=7∨i=8∨i=9∨i=10∨i=11∨i=12∨i=13∨i=14∨i=15∨i=16:=by omega);rcases hz with rfl | rfl | rfl | rfl | rfl | rfl | rfl | rfl | rfl | rfl | rfl | rfl | rfl | rfl | rfl | rfl | rfl
  ·obtain rfl:=Option.some.inj ho;obtain rfl:=Option.some.inj hd;have e0 : a'.tmps.getD 0 undef=.pointer (some ⟨kb,0,none⟩):=tmp_of ((hoth 0 (by decide)).trans rfl);clear hoth hdeps hdf hts ho hgu;refine wp_via (fun K' hK=>?_);have HK:=Lib.hid hK;clear hK;go_simp;exact HK.out _ _ ⟨_,rfl,hg,Kept.refl _ _,rfl⟩
  ·obtain rfl:=Option.some.inj ho;obtain rfl:=Option.some.inj hd;have e0 : a'.tmps.getD 17 undef=.pointer (some ⟨kb,0,none⟩):=hdeps 0 (by decide) 17 rfl (fun h=>by cases h);clear hoth hdeps hdf hts ho hgu;refine wp_via (fun K' hK=>?_);have HK:=Lib.hid hK;clear hK;go_simp;exact HK.out _ _ ⟨_,rfl,hg,Kept.refl _ _,rfl⟩
  ·obtain rfl:=Option.some.inj ho;obtain rfl:=Option.some.inj hd;have e0 : a'.tmps.getD 18 undef=.pointer (some ⟨kb,0,none⟩):=hdeps 1 (by decide) 18 rfl (fun h=>by cases h);clear hoth hdeps hdf hts ho hgu;refine wp_via (fun K' hK=>?_);have HK:=Lib.hid hK;clear hK;go_simp;exact HK.out _ _ ⟨_,rfl,hg,Kept.refl _ _,rfl⟩
  ·obtain rfl:=Option.some.inj ho;obtain rfl:=Option.some.inj hd;have e0 : a'.tmps.getD 19 undef=.pointer (some ⟨kb,0,none⟩):=hdeps 2 (by decide) 19 rfl (fun h=>by cases h);clear hoth hdeps hdf hts ho hgu;refine wp_via (fun K' hK=>?_);have HK:=Lib.hid hK;clear hK;go_simp;exact HK.out _ _ ⟨_,rfl,hg,Kept.refl _ _,rfl⟩
  ·obtain rfl:=Option.some.inj ho;obtain rfl:=Option.some.inj hd;have e0 : a'.tmps.getD 6 undef=.pointer (some ⟨pb,0,none⟩):=tmp_of ((hoth 6 (by decide)).trans rfl);clear hoth hdeps hdf hts ho hgu;refine wp_via (fun K' hK=>?_);have HK:=Lib.hid hK;clear hK;go_simp;exact HK.out _ _ ⟨_,rfl,hg,Kept.refl _ _,rfl⟩
  ·obtain rfl:=Option.some.inj ho;obtain rfl:=Option.some.inj hd;have e0 : a'.tmps.getD 21 undef=.pointer (some ⟨pb,0,none⟩):=hdeps 4 (by decide) 21 rfl (fun h=>by cases h);clear hoth hdeps hdf hts ho hgu;refine wp_via (fun K' hK=>?_);have HK:=Lib.hid hK;clear hK;go_simp;exact HK.out _ _ ⟨_,rfl,hg,Kept.refl _ _,rfl⟩
  ·obtain rfl:=Option.some.inj ho;obtain rfl:=Option.some.inj hd;have e0 : a'.tmps.getD 1 undef=.string who:=tmp_of ((hoth 1 (by decide)).trans rfl);clear hoth hdeps hdf hts ho hgu;refine wp_via (fun K' hK=>?_);have HK:=Lib.hid hK;clear hK;go_simp;exact HK.out _ _ ⟨_,rfl,hg,Kept.refl _ _,rfl⟩
  ·obtain rfl:=Option.some.inj ho;obtain rfl:=Option.some.inj hd;have e0 : a'.tmps.getD 20 undef=.agg #[.slice a0 l0 c0,.slice a1 l1 c1,.slice a2 l2 c2,.slice a3 l3 c3,.slice a4 l4 c4,.int .i64 s.due,.int .i64 s.reply]:=hdeps 3 (by decide) 20 rfl (fun h=>by cases h);have e1 : a'.tmps.getD 22 undef=.string p.paper:=hdeps 5 (by decide) 22 rfl (fun h=>by cases h);have e2 : a'.tmps.getD 23 undef=.string who:=hdeps 6 (by decide) 23 rfl (fun h=>by cases h);clear hoth hdeps hdf hts ho hgu;refine wp_via (fun K' hK=>?_);have HK:=Lib.hid hK;clear hK;go_simp;refine (isAuthor_any a0 l0 c0 a1 l1 c1 a2 l2 c2 a3 l3 c3 a4 l4 c4 s.due s.reply s.papers p.paper who _ (HIS.out _ hg).papers (by omega) HR1.out).mono ?_;rintro e w2x ⟨rfl,hk2x⟩;exact HK.out _ _ ⟨_,rfl,hg.trans hk2x,hk2x,by rw [HAB.out]; rfl⟩
  ·obtain rfl:=Option.some.inj ho;obtain rfl:=Option.some.inj hd;have e0 : a'.tmps.getD 24 undef=.bool ab:=hdeps 7 (by decide) 24 rfl (fun h=>by cases h);clear hoth hdeps hdf hts ho hgu;refine wp_via (fun K' hK=>?_);have HK:=Lib.hid hK;clear hK;go_simp;exact HK.out _ _ ⟨_,rfl,hg,Kept.refl _ _,rfl⟩
  ·obtain rfl:=Option.some.inj ho;obtain rfl:=Option.some.inj hd;have e0 : a'.tmps.getD 3 undef=.int .i64 tm:=tmp_of ((hoth 3 (by decide)).trans rfl);clear hoth hdeps hdf hts ho hgu;refine wp_via (fun K' hK=>?_);have HK:=Lib.hid hK;clear hK;go_simp;exact HK.out _ _ ⟨_,rfl,hg,Kept.refl _ _,rfl⟩
  ·obtain rfl:=Option.some.inj ho;obtain rfl:=Option.some.inj hd;have e0 : a'.tmps.getD 0 undef=.pointer (some ⟨kb,0,none⟩):=tmp_of ((hoth 0 (by decide)).trans rfl);clear hoth hdeps hdf hts ho hgu;refine wp_via (fun K' hK=>?_);have HK:=Lib.hid hK;clear hK;go_simp;exact HK.out _ _ ⟨_,rfl,hg,Kept.refl _ _,rfl⟩
  ·obtain rfl:=Option.some.inj ho;obtain rfl:=Option.some.inj hd;have e0 : a'.tmps.getD 27 undef=.pointer (some ⟨kb,0,none⟩):=hdeps 10 (by decide) 27 rfl (fun _=>hgu rfl);clear hoth hdeps hdf hts ho hgu;refine wp_via (fun K' hK=>?_);have HK:=Lib.hid hK;clear hK;go_simp;exact HK.out _ _ ⟨_,rfl,hg,Kept.refl _ _,rfl⟩
  ·obtain rfl:=Option.some.inj ho;obtain rfl:=Option.some.inj hd;have e0 : a'.tmps.getD 28 undef=.pointer (some ⟨kb,0,none⟩):=hdeps 11 (by decide) 28 rfl (fun _=>hgu rfl);clear hoth hdeps hdf hts ho hgu;refine wp_via (fun K' hK=>?_);have HK:=Lib.hid hK;clear hK;go_simp;exact HK.out _ _ ⟨_,rfl,hg,Kept.refl _ _,rfl⟩
  ·obtain rfl:=Option.some.inj ho;obtain rfl:=Option.some.inj hd;have e0 : a'.tmps.getD 29 undef=.pointer (some ⟨kb,0,none⟩):=hdeps 12 (by decide) 29 rfl (fun _=>hgu rfl);clear hoth hdeps hdf hts ho hgu;refine wp_via (fun K' hK=>?_);have HK:=Lib.hid hK;clear hK;go_simp;exact HK.out _ _ ⟨_,rfl,hg,Kept.refl _ _,rfl⟩
  ·obtain rfl:=Option.some.inj ho;obtain rfl:=Option.some.inj hd;have e0 : a'.tmps.getD 30 undef=.pointer (some ⟨kb,6,none⟩):=hdeps 13 (by decide) 30 rfl (fun _=>hgu rfl);clear hoth hdeps hdf hts ho hgu;refine wp_via (fun K' hK=>?_);have HK:=Lib.hid hK;clear hK;go_simp;exact HK.out _ _ ⟨_,rfl,hg,Kept.refl _ _,rfl⟩
  ·obtain rfl:=Option.some.inj ho;obtain rfl:=Option.some.inj hd;have e0 : a'.tmps.getD 26 undef=.int .i64 tm:=hdeps 9 (by decide) 26 rfl (fun _=>hgu rfl);have e1 : a'.tmps.getD 31 undef=.int .i64 s.reply:=hdeps 14 (by decide) 31 rfl (fun _=>hgu rfl);clear hoth hdeps hdf hts ho hgu;refine wp_via (fun K' hK=>?_);have HK:=Lib.hid hK;clear hK;go_simp;exact HK.out _ _ ⟨_,rfl,hg,Kept.refl _ _,by rw [HRB.out]; rfl⟩
  ·obtain rfl:=Option.some.inj ho;obtain rfl:=Option.some.inj hd
   cases ab with
   | false =>
    have e0 : a'.tmps.getD 25 undef=.bool false:=hdeps 8 (by decide) 25 rfl (fun h=>by cases h);clear hoth hdeps hdf hts ho;refine wp_via (fun K' hK=>?_);have HK:=Lib.hid hK;clear hK;go_simp;exact HK.out _ _ ⟨_,rfl,hg,Kept.refl _ _,rfl⟩
   | true =>
    have e0 : a'.tmps.getD 25 undef=.bool true:=hdeps 8 (by decide) 25 rfl (fun h=>by cases h);have e1 : a'.tmps.getD 32 undef=.bool rb:=hdeps 15 (by decide) 32 rfl (fun _=>e0);clear hoth hdeps hdf hts ho;refine wp_via (fun K' hK=>?_);have HK:=Lib.hid hK;clear hK;go_simp;exact HK.out _ _ ⟨_,rfl,hg,Kept.refl _ _,rfl⟩
 ·intro wx f hg hd;have e33f : f 33=.bool (ab && rb):=hd 16 33 (by decide) rfl (fun h=>by cases h);refine ⟨?_⟩;rw [show dsts _ 17=[17,18,19,20,21,22,23,24,25,26,27,28,29,30,31,32,33] from by kernel_rfl];simp only [List.map_cons,List.map_nil,puts,Act.put,e33f,List.drop_succ_cons,List.drop_zero];generalize f 17=f17;generalize f 18=f18;generalize f 19=f19;generalize f 20=f20;generalize f 21=f21;generalize f 22=f22;generalize f 23=f23;generalize f 24=f24;generalize f 25=f25;generalize f 26=f26;generalize f 27=f27;generalize f 28=f28;generalize f 29=f29;generalize f 30=f30;generalize f 31=f31;generalize f 32=f32;clear hd e33f f;simp only [List.setIfInBounds_toArray,List.set_cons_zero,List.set_cons_succ];have hk2:=hg;clear hg;obtain ⟨w2,rfl⟩ : ∃ q : World,q=wx:=⟨_,rfl⟩;obtain ⟨x1,hx1⟩ : ∃ z,z=(ab && rb):=⟨_,rfl⟩;have HX1:=Lib.hid hx1;rw [← hx1];clear hx1
  cases x1 with
  | true =>
   (go_wp2_with fail);go_ret;exact ⟨by rw [HLV.out,lvB_1 HX1.out.symm]; rfl,HK1.out.trans hk2⟩
  | false =>
   (go_upto_region 4 with fail);refine wp_region_guard 17 8 43 false (by kernel_rfl) (by kernel_rfl) (by kernel_rfl) (fun _ wx=>All w2 wx)
    (DL [QIs (.pointer (some ⟨kb,0,none⟩)),QIs (.pointer (some ⟨kb,0,none⟩)),QIs (.pointer (some ⟨kb,0,none⟩)),QIs (.agg #[.slice a0 l0 c0,.slice a1 l1 c1,.slice a2 l2 c2,.slice a3 l3 c3,.slice a4 l4 c4,.int .i64 s.due,.int .i64 s.reply]),QIs (.pointer (some ⟨pb,0,none⟩)),QIs (.string p.paper),QIs (.string who),QIs (.bool ab),QIs (.bool ab),QIs (.pointer (some ⟨kb,0,none⟩)),QIs (.pointer (some ⟨kb,0,none⟩)),QIs (.pointer (some ⟨kb,0,none⟩)),QIs (.pointer (some ⟨kb,3,none⟩)),QIs (.slice a3 l3 c3),QIs (.agg #[.string p.paper,.string who]),QIs (.bool bb),QIs (.bool (ab || bb))]) All (fun _=>Kept.refl _ _)
    (DL.keep (by simp only [List.forall_mem_cons,List.not_mem_nil,false_implies,implies_true,and_true]; exact ⟨QIs.stays _,QIs.stays _,QIs.stays _,QIs.stays _,QIs.stays _,QIs.stays _,QIs.stays _,QIs.stays _,QIs.stays _,QIs.stays _,QIs.stays _,QIs.stays _,QIs.stays _,QIs.stays _,QIs.stays _,QIs.stays _,QIs.stays _⟩)) (Kept.drew _ _) (fun _ _ h=>h) (fun v _ h=>⟨_,h⟩) ?_ ?_
   ·intro i o t ho hd hi k' a' wx hk' hg hdf hts hoth hgu hdeps;obtain ⟨t1,t2,t3⟩:=HCC.out wx (hk2.trans hg);have p0:=cell_at (i:=0) t1 rfl;have p1:=cell_at (i:=1) t1 rfl;have o0:=cell_at (i:=0) t2 rfl;have o1:=cell_at (i:=1) t2 rfl;have k0:=cell_at (i:=0) t3 rfl;have k1:=cell_at (i:=1) t3 rfl;have k2:=cell_at (i:=2) t3 rfl;have k3:=cell_at (i:=3) t3 rfl;have k4:=cell_at (i:=4) t3 rfl;have k5:=cell_at (i:=5) t3 rfl;have k6:=cell_at (i:=6) t3 rfl;clear t1 t2 t3;(have hz : i=0∨i=1∨i=2∨i=3∨i=4∨i=5∨i=6∨i=7∨i=8∨i=9∨i=10∨i=11∨i=12∨i=13∨i=14∨i=15∨i=16:=by omega);rcases hz with rfl | rfl | rfl | rfl | rfl | rfl | rfl | rfl | rfl | rfl | rfl | rfl | rfl | rfl | rfl | rfl | rfl
    ·obtain rfl:=Option.some.inj ho;obtain rfl:=Option.some.inj hd;have e0 : a'.tmps.getD 0 undef=.pointer (some ⟨kb,0,none⟩):=tmp_of ((hoth 0 (by decide)).trans rfl);clear hoth hdeps hdf hts ho hgu;refine wp_via (fun K' hK=>?_);have HK:=Lib.hid hK;clear hK;go_simp;exact HK.out _ _ ⟨_,rfl,hg,Kept.refl _ _,rfl⟩
    ·obtain rfl:=Option.some.inj ho;obtain rfl:=Option.some.inj hd;have e0 : a'.tmps.getD 35 undef=.pointer (some ⟨kb,0,none⟩):=hdeps 0 (by decide) 35 rfl (fun h=>by cases h);clear hoth hdeps hdf hts ho hgu;refine wp_via (fun K' hK=>?_);have HK:=Lib.hid hK;clear hK;go_simp;exact HK.out _ _ ⟨_,rfl,hg,Kept.refl _ _,rfl⟩
    ·obtain rfl:=Option.some.inj ho;obtain rfl:=Option.some.inj hd;have e0 : a'.tmps.getD 36 undef=.pointer (some ⟨kb,0,none⟩):=hdeps 1 (by decide) 36 rfl (fun h=>by cases h);clear hoth hdeps hdf hts ho hgu;refine wp_via (fun K' hK=>?_);have HK:=Lib.hid hK;clear hK;go_simp;exact HK.out _ _ ⟨_,rfl,hg,Kept.refl _ _,rfl⟩
    ·obtain rfl:=Option.some.inj ho;obtain rfl:=Option.some.inj hd;have e0 : a'.tmps.getD 37 undef=.pointer (some ⟨kb,0,none⟩):=hdeps 2 (by decide) 37 rfl (fun h=>by cases h);clear hoth hdeps hdf hts ho hgu;refine wp_via (fun K' hK=>?_);have HK:=Lib.hid hK;clear hK;go_simp;exact HK.out _ _ ⟨_,rfl,hg,Kept.refl _ _,rfl⟩
    ·obtain rfl:=Option.some.inj ho;obtain rfl:=Option.some.inj hd;have e0 : a'.tmps.getD 6 undef=.pointer (some ⟨pb,0,none⟩):=tmp_of ((hoth 6 (by decide)).trans rfl);clear hoth hdeps hdf hts ho hgu;refine wp_via (fun K' hK=>?_);have HK:=Lib.hid hK;clear hK;go_simp;exact HK.out _ _ ⟨_,rfl,hg,Kept.refl _ _,rfl⟩
    ·obtain rfl:=Option.some.inj ho;obtain rfl:=Option.some.inj hd;have e0 : a'.tmps.getD 39 undef=.pointer (some ⟨pb,0,none⟩):=hdeps 4 (by decide) 39 rfl (fun h=>by cases h);clear hoth hdeps hdf hts ho hgu;refine wp_via (fun K' hK=>?_);have HK:=Lib.hid hK;clear hK;go_simp;exact HK.out _ _ ⟨_,rfl,hg,Kept.refl _ _,rfl⟩
    ·obtain rfl:=Option.some.inj ho;obtain rfl:=Option.some.inj hd;have e0 : a'.tmps.getD 1 undef=.string who:=tmp_of ((hoth 1 (by decide)).trans rfl);clear hoth hdeps hdf hts ho hgu;refine wp_via (fun K' hK=>?_);have HK:=Lib.hid hK;clear hK;go_simp;exact HK.out _ _ ⟨_,rfl,hg,Kept.refl _ _,rfl⟩
    ·obtain rfl:=Option.some.inj ho;obtain rfl:=Option.some.inj hd;have e0 : a'.tmps.getD 38 undef=.agg #[.slice a0 l0 c0,.slice a1 l1 c1,.slice a2 l2 c2,.slice a3 l3 c3,.slice a4 l4 c4,.int .i64 s.due,.int .i64 s.reply]:=hdeps 3 (by decide) 38 rfl (fun h=>by cases h);have e1 : a'.tmps.getD 40 undef=.string p.paper:=hdeps 5 (by decide) 40 rfl (fun h=>by cases h);have e2 : a'.tmps.getD 41 undef=.string who:=hdeps 6 (by decide) 41 rfl (fun h=>by cases h);clear hoth hdeps hdf hts ho hgu;refine wp_via (fun K' hK=>?_);have HK:=Lib.hid hK;clear hK;go_simp;refine (isAuthor_any a0 l0 c0 a1 l1 c1 a2 l2 c2 a3 l3 c3 a4 l4 c4 s.due s.reply s.papers p.paper who _ (HIS.out _ (hk2.trans hg)).papers (by omega) HR1.out).mono ?_;rintro e w2x ⟨rfl,hk2x⟩;exact HK.out _ _ ⟨_,rfl,hg.trans hk2x,hk2x,by rw [HAB.out]; rfl⟩
    ·obtain rfl:=Option.some.inj ho;obtain rfl:=Option.some.inj hd;have e0 : a'.tmps.getD 42 undef=.bool ab:=hdeps 7 (by decide) 42 rfl (fun h=>by cases h);clear hoth hdeps hdf hts ho hgu;refine wp_via (fun K' hK=>?_);have HK:=Lib.hid hK;clear hK;go_simp;exact HK.out _ _ ⟨_,rfl,hg,Kept.refl _ _,rfl⟩
    ·obtain rfl:=Option.some.inj ho;obtain rfl:=Option.some.inj hd;have e0 : a'.tmps.getD 0 undef=.pointer (some ⟨kb,0,none⟩):=tmp_of ((hoth 0 (by decide)).trans rfl);clear hoth hdeps hdf hts ho hgu;refine wp_via (fun K' hK=>?_);have HK:=Lib.hid hK;clear hK;go_simp;exact HK.out _ _ ⟨_,rfl,hg,Kept.refl _ _,rfl⟩
    ·obtain rfl:=Option.some.inj ho;obtain rfl:=Option.some.inj hd;have e0 : a'.tmps.getD 44 undef=.pointer (some ⟨kb,0,none⟩):=hdeps 9 (by decide) 44 rfl (fun _=>hgu rfl);clear hoth hdeps hdf hts ho hgu;refine wp_via (fun K' hK=>?_);have HK:=Lib.hid hK;clear hK;go_simp;exact HK.out _ _ ⟨_,rfl,hg,Kept.refl _ _,rfl⟩
    ·obtain rfl:=Option.some.inj ho;obtain rfl:=Option.some.inj hd;have e0 : a'.tmps.getD 45 undef=.pointer (some ⟨kb,0,none⟩):=hdeps 10 (by decide) 45 rfl (fun _=>hgu rfl);clear hoth hdeps hdf hts ho hgu;refine wp_via (fun K' hK=>?_);have HK:=Lib.hid hK;clear hK;go_simp;exact HK.out _ _ ⟨_,rfl,hg,Kept.refl _ _,rfl⟩
    ·obtain rfl:=Option.some.inj ho;obtain rfl:=Option.some.inj hd;have e0 : a'.tmps.getD 46 undef=.pointer (some ⟨kb,0,none⟩):=hdeps 11 (by decide) 46 rfl (fun _=>hgu rfl);clear hoth hdeps hdf hts ho hgu;refine wp_via (fun K' hK=>?_);have HK:=Lib.hid hK;clear hK;go_simp;exact HK.out _ _ ⟨_,rfl,hg,Kept.refl _ _,rfl⟩
    ·obtain rfl:=Option.some.inj ho;obtain rfl:=Option.some.inj hd;have e0 : a'.tmps.getD 47 undef=.pointer (some ⟨kb,3,none⟩):=hdeps 12 (by decide) 47 rfl (fun _=>hgu rfl);clear hoth hdeps hdf hts ho hgu;refine wp_via (fun K' hK=>?_);have HK:=Lib.hid hK;clear hK;go_simp;exact HK.out _ _ ⟨_,rfl,hg,Kept.refl _ _,rfl⟩
    ·obtain rfl:=Option.some.inj ho;obtain rfl:=Option.some.inj hd;have e0 : a'.tmps.getD 9 undef=.pointer (some ⟨ob,0,none⟩):=tmp_of ((hoth 9 (by decide)).trans rfl);clear hoth hdeps hdf hts ho hgu;refine wp_via (fun K' hK=>?_);have HK:=Lib.hid hK;clear hK;go_simp;exact HK.out _ _ ⟨_,rfl,hg,Kept.refl _ _,rfl⟩
    ·obtain rfl:=Option.some.inj ho;obtain rfl:=Option.some.inj hd;have e0 : a'.tmps.getD 48 undef=.slice a3 l3 c3:=hdeps 13 (by decide) 48 rfl (fun _=>hgu rfl);have e1 : a'.tmps.getD 49 undef=.agg #[.string p.paper,.string who]:=hdeps 14 (by decide) 49 rfl (fun _=>hgu rfl);clear hoth hdeps hdf hts ho hgu;refine wp_via (fun K' hK=>?_);have HK:=Lib.hid hK;clear hK;go_simp;refine (isInR_any a3 l3 c3 s.barred ⟨p.paper,who,p.h1,hwho⟩ _ (HIS.out _ (hk2.trans hg)).barred (by omega) HR3.out).mono ?_;rintro e w2x ⟨rfl,hk2x⟩;exact HK.out _ _ ⟨_,rfl,hg.trans hk2x,hk2x,by rw [HBB.out]; rfl⟩
    ·obtain rfl:=Option.some.inj ho;obtain rfl:=Option.some.inj hd
     cases ab with
     | false =>
      have e0 : a'.tmps.getD 43 undef=.bool false:=hdeps 8 (by decide) 43 rfl (fun h=>by cases h);have e1 : a'.tmps.getD 50 undef=.bool bb:=hdeps 15 (by decide) 50 rfl (fun _=>e0);clear hoth hdeps hdf hts ho;refine wp_via (fun K' hK=>?_);have HK:=Lib.hid hK;clear hK;go_simp;exact HK.out _ _ ⟨_,rfl,hg,Kept.refl _ _,rfl⟩
     | true =>
      have e0 : a'.tmps.getD 43 undef=.bool true:=hdeps 8 (by decide) 43 rfl (fun h=>by cases h);clear hoth hdeps hdf hts ho;refine wp_via (fun K' hK=>?_);have HK:=Lib.hid hK;clear hK;go_simp;exact HK.out _ _ ⟨_,rfl,hg,Kept.refl _ _,rfl⟩
   ·intro wx f hg hd;have e51f : f 51=.bool (ab || bb):=hd 16 51 (by decide) rfl (fun h=>by cases h);refine ⟨?_⟩;rw [show dsts _ 17=[35,36,37,38,39,40,41,42,43,44,45,46,47,48,49,50,51] from by kernel_rfl];simp only [List.map_cons,List.map_nil,puts,Act.put,e51f,List.drop_succ_cons,List.drop_zero];generalize f 35=f35;generalize f 36=f36;generalize f 37=f37;generalize f 38=f38;generalize f 39=f39;generalize f 40=f40;generalize f 41=f41;generalize f 42=f42;generalize f 43=f43;generalize f 44=f44;generalize f 45=f45;generalize f 46=f46;generalize f 47=f47;generalize f 48=f48;generalize f 49=f49;generalize f 50=f50;clear hd e51f f;simp only [List.setIfInBounds_toArray,List.set_cons_zero,List.set_cons_succ];have hk3:=hk2.trans hg;clear hg;obtain ⟨w3,rfl⟩ : ∃ q : World,q=wx:=⟨_,rfl⟩;obtain ⟨x2,hx2⟩ : ∃ z,z=(ab || bb):=⟨_,rfl⟩;have HX2:=Lib.hid hx2;rw [← hx2];clear hx2
    cases x2 with
    | true =>
     (go_wp2_with fail);go_ret;exact ⟨by rw [HLV.out,lvB_0 HX1.out.symm HX2.out.symm]; rfl,HK1.out.trans hk3⟩
    | false =>
     obtain ⟨t1,t2,t3⟩:=HCC.out w3 hk3;have p0:=cell_at (i:=0) t1 rfl;have p1:=cell_at (i:=1) t1 rfl;have o0:=cell_at (i:=0) t2 rfl;have o1:=cell_at (i:=1) t2 rfl;have k4:=cell_at (i:=4) t3 rfl;clear t1 t2 t3;have heq:=HEB.out.symm
     cases eb with
     | true =>
      (go_wp2_with fail);go_ret;exact ⟨by rw [HLV.out,lvB_3 HX2.out.symm rfl]; rfl,HK1.out.trans hk3⟩
     | false =>
      (go_wp2_with fail);refine (contains_any a4 l4 c4 s.chairs who _ (HIS.out _ hk3).chairs (by omega)).mono ?_;rintro e w' ⟨rfl,rfl⟩;rw [← HCB.out]
      cases cb with
      | true =>
       (go_wp2_with fail);go_ret;exact ⟨by rw [HLV.out,lvB_3 HX2.out.symm rfl]; rfl,HK1.out.trans hk3⟩
      | false =>
       (go_wp2_with fail);refine (last_any kb #[.slice a0 l0 c0,.slice a1 l1 c1,.slice a2 l2 c2,.slice a3 l3 c3,.slice a4 l4 c4,.int .i64 s.due,.int .i64 s.reply] rfl ts hts (p.paper,who) ⟨p.h1,hwho⟩ tm true _ (HBK.out _ hk3)).mono ?_;rintro e w4 ⟨rfl,hw4⟩;obtain ⟨⟨x,aa,ac⟩,hx⟩ : ∃ z,z=(lastO ts (p.paper,who) tm true).getD raw0:=⟨_,rfl⟩;rw [← hx,← HLO.out];rw [show (encRaw (x,aa,ac)).toArray=revC x aa ac from rfl];obtain ⟨db,hdb⟩ : ∃ z,z=lo.isSome:=⟨_,rfl⟩;have HDD:=Lib.hid hdb;rw [← hdb];obtain ⟨qb,hqb⟩ : ∃ z,z=inP s.pairs p.paper who:=⟨_,rfl⟩;have HQB:=Lib.hid hqb;have hk4:=hk3.trans hw4;have hk5:=hk4.then_alloc (.cells (revC x aa ac) 73);clear hx hdb hqb p0 p1 o0 o1 k4 heq hw4 hk4;(go_upto_region 9 with fail);generalize w4.alloc (.cells (revC x aa ac) 73)=w5 at *;refine wp_region_guard 9 1 74 true (by kernel_rfl) (by kernel_rfl) (by kernel_rfl) (fun _ wx=>All w5 wx)
        (DL [QIs (.bool db),QIs (.bool db),QIs (.pointer (some ⟨kb,0,none⟩)),QIs (.pointer (some ⟨kb,0,none⟩)),QIs (.pointer (some ⟨kb,0,none⟩)),QIs (.pointer (some ⟨kb,2,none⟩)),QIs (.slice a2 l2 c2),QIs (.agg #[.string p.paper,.string who]),QIs (.bool qb)]) All (fun _=>Kept.refl _ _)
        (DL.keep (by simp only [List.forall_mem_cons,List.not_mem_nil,false_implies,implies_true,and_true]; exact ⟨QIs.stays _,QIs.stays _,QIs.stays _,QIs.stays _,QIs.stays _,QIs.stays _,QIs.stays _,QIs.stays _,QIs.stays _⟩)) (Kept.drew _ _) (fun _ _ h=>h) (fun v _ h=>⟨_,h⟩) ?_ ?_
       ·intro i o t ho hd hi k' a' wx hk' hg hdf hts hoth hgu hdeps;obtain ⟨t1,t2,t3⟩:=HCC.out wx (hk5.trans hg);have p0:=cell_at (i:=0) t1 rfl;have p1:=cell_at (i:=1) t1 rfl;have o0:=cell_at (i:=0) t2 rfl;have o1:=cell_at (i:=1) t2 rfl;have k0:=cell_at (i:=0) t3 rfl;have k1:=cell_at (i:=1) t3 rfl;have k2:=cell_at (i:=2) t3 rfl;have k3:=cell_at (i:=3) t3 rfl;have k4:=cell_at (i:=4) t3 rfl;have k5:=cell_at (i:=5) t3 rfl;have k6:=cell_at (i:=6) t3 rfl;clear t1 t2 t3;(have hz : i=0∨i=1∨i=2∨i=3∨i=4∨i=5∨i=6∨i=7∨i=8:=by omega);rcases hz with rfl | rfl | rfl | rfl | rfl | rfl | rfl | rfl | rfl
        ·obtain rfl:=Option.some.inj ho;obtain rfl:=Option.some.inj hd;have e0 : a'.tmps.getD 11 undef=.bool db:=tmp_of ((hoth 11 (by decide)).trans rfl);clear hoth hdeps hdf hts ho hgu;refine wp_via (fun K' hK=>?_);have HK:=Lib.hid hK;clear hK;go_simp;exact HK.out _ _ ⟨_,rfl,hg,Kept.refl _ _,rfl⟩
        ·obtain rfl:=Option.some.inj ho;obtain rfl:=Option.some.inj hd;have e0 : a'.tmps.getD 73 undef=.bool db:=hdeps 0 (by decide) 73 rfl (fun h=>by cases h);clear hoth hdeps hdf hts ho hgu;refine wp_via (fun K' hK=>?_);have HK:=Lib.hid hK;clear hK;go_simp;exact HK.out _ _ ⟨_,rfl,hg,Kept.refl _ _,rfl⟩
        ·obtain rfl:=Option.some.inj ho;obtain rfl:=Option.some.inj hd;have e0 : a'.tmps.getD 0 undef=.pointer (some ⟨kb,0,none⟩):=tmp_of ((hoth 0 (by decide)).trans rfl);clear hoth hdeps hdf hts ho hgu;refine wp_via (fun K' hK=>?_);have HK:=Lib.hid hK;clear hK;go_simp;exact HK.out _ _ ⟨_,rfl,hg,Kept.refl _ _,rfl⟩
        ·obtain rfl:=Option.some.inj ho;obtain rfl:=Option.some.inj hd;have e0 : a'.tmps.getD 75 undef=.pointer (some ⟨kb,0,none⟩):=hdeps 2 (by decide) 75 rfl (fun _=>hgu rfl);clear hoth hdeps hdf hts ho hgu;refine wp_via (fun K' hK=>?_);have HK:=Lib.hid hK;clear hK;go_simp;exact HK.out _ _ ⟨_,rfl,hg,Kept.refl _ _,rfl⟩
        ·obtain rfl:=Option.some.inj ho;obtain rfl:=Option.some.inj hd;have e0 : a'.tmps.getD 76 undef=.pointer (some ⟨kb,0,none⟩):=hdeps 3 (by decide) 76 rfl (fun _=>hgu rfl);clear hoth hdeps hdf hts ho hgu;refine wp_via (fun K' hK=>?_);have HK:=Lib.hid hK;clear hK;go_simp;exact HK.out _ _ ⟨_,rfl,hg,Kept.refl _ _,rfl⟩
        ·obtain rfl:=Option.some.inj ho;obtain rfl:=Option.some.inj hd;have e0 : a'.tmps.getD 77 undef=.pointer (some ⟨kb,0,none⟩):=hdeps 4 (by decide) 77 rfl (fun _=>hgu rfl);clear hoth hdeps hdf hts ho hgu;refine wp_via (fun K' hK=>?_);have HK:=Lib.hid hK;clear hK;go_simp;exact HK.out _ _ ⟨_,rfl,hg,Kept.refl _ _,rfl⟩
        ·obtain rfl:=Option.some.inj ho;obtain rfl:=Option.some.inj hd;have e0 : a'.tmps.getD 78 undef=.pointer (some ⟨kb,2,none⟩):=hdeps 5 (by decide) 78 rfl (fun _=>hgu rfl);clear hoth hdeps hdf hts ho hgu;refine wp_via (fun K' hK=>?_);have HK:=Lib.hid hK;clear hK;go_simp;exact HK.out _ _ ⟨_,rfl,hg,Kept.refl _ _,rfl⟩
        ·obtain rfl:=Option.some.inj ho;obtain rfl:=Option.some.inj hd;have e0 : a'.tmps.getD 9 undef=.pointer (some ⟨ob,0,none⟩):=tmp_of ((hoth 9 (by decide)).trans rfl);clear hoth hdeps hdf hts ho hgu;refine wp_via (fun K' hK=>?_);have HK:=Lib.hid hK;clear hK;go_simp;exact HK.out _ _ ⟨_,rfl,hg,Kept.refl _ _,rfl⟩
        ·obtain rfl:=Option.some.inj ho;obtain rfl:=Option.some.inj hd;have e0 : a'.tmps.getD 79 undef=.slice a2 l2 c2:=hdeps 6 (by decide) 79 rfl (fun _=>hgu rfl);have e1 : a'.tmps.getD 80 undef=.agg #[.string p.paper,.string who]:=hdeps 7 (by decide) 80 rfl (fun _=>hgu rfl);clear hoth hdeps hdf hts ho hgu;refine wp_via (fun K' hK=>?_);have HK:=Lib.hid hK;clear hK;go_simp;refine (isInR_any a2 l2 c2 s.pairs ⟨p.paper,who,p.h1,hwho⟩ _ (HIS.out _ (hk5.trans hg)).pairs (by omega) HR2.out).mono ?_;rintro e w2x ⟨rfl,hk2x⟩;exact HK.out _ _ ⟨_,rfl,hg.trans hk2x,hk2x,by rw [HQB.out]; rfl⟩
       ·intro wx f hg hd;have e74f : f 74=.bool db:=hd 1 74 (by decide) rfl (fun h=>by cases h)
        cases db with
        | false =>
         refine ⟨?_⟩;rw [show dsts _ 9=[73,74,75,76,77,78,79,80,81] from by kernel_rfl];simp only [List.map_cons,List.map_nil,puts,Act.put,e74f,List.drop_succ_cons,List.drop_zero];generalize f 73=f73;generalize f 75=f75;generalize f 76=f76;generalize f 77=f77;generalize f 78=f78;generalize f 79=f79;generalize f 80=f80;generalize f 81=f81;clear hd e74f f;simp only [List.setIfInBounds_toArray,List.set_cons_zero,List.set_cons_succ];have hk6:=hk5.trans hg;clear hg;(go_wp2_with fail);go_ret;exact ⟨by rw [HLV.out,lvB_z HX2.out.symm rfl HDD.out.symm]; rfl,HK1.out.trans hk6⟩
        | true =>
         have e81f : f 81=.bool qb:=hd 8 81 (by decide) rfl (fun _=>e74f);refine ⟨?_⟩;rw [show dsts _ 9=[73,74,75,76,77,78,79,80,81] from by kernel_rfl];simp only [List.map_cons,List.map_nil,puts,Act.put,e74f,e81f,List.drop_succ_cons,List.drop_zero];generalize f 73=f73;generalize f 75=f75;generalize f 76=f76;generalize f 77=f77;generalize f 78=f78;generalize f 79=f79;generalize f 80=f80;clear hd e74f e81f f;simp only [List.setIfInBounds_toArray,List.set_cons_zero,List.set_cons_succ];have hk6:=hk5.trans hg;clear hg;(have hq : qb=true:=by rw [HQB.out]; exact HDB.out HDD.out.symm);subst hq;(go_wp2_with fail);go_ret;exact ⟨by rw [HLV.out,lvB_2 HX2.out.symm rfl HDD.out.symm]; rfl,HK1.out.trans hk6⟩
open Go.RowKit
set_option maxRecDepth 100000 in
set_option maxHeartbeats 12800000 in
theorem levelOf_any (a0 : Option Addr) (l0 c0 : Nat) (a1 : Option Addr) (l1 c1 : Nat) (a2 : Option Addr) (l2 c2 : Nat) (a3 : Option Addr) (l3 c3 : Nat) (a4 : Option Addr) (l4 c4 : Nat) (s : Set7) (al : Option Addr) (ll cl : Nat) (ts : List Raw) (who : ByteArray) (hwho : who.size≤1000000) (p : Pair2) (tm : Int) (w : World) (his : SetIs (fun _=>True) w a0 l0 a1 l1 a2 l2 a3 l3 a4 l4 s) (hst : Sl RRaw 7 (fun _=>True) w al ll ts) (hl : ll≤1000000) :
  Calls Tryz.prog 20 #[.agg #[.slice a0 l0 c0,.slice a1 l1 c1,.slice a2 l2 c2,.slice a3 l3 c3,.slice a4 l4 c4,.int .i64 s.due,.int .i64 s.reply],.slice al ll cl,.string who,.agg #[.string p.paper,.string p.person],.int .i64 tm] w fun e w'=>e=.returned (.int .i64 (levelF s ts who p tm))∧All w w':=by
 have hk1 : All w (((w.alloc (.cells #[.slice a0 l0 c0,.slice a1 l1 c1,.slice a2 l2 c2,.slice a3 l3 c3,.slice a4 l4 c4,.int .i64 s.due,.int .i64 s.reply] 31)).alloc (.cells #[.string p.paper,.string p.person] 39)).alloc (.cells #[.string p.paper,.string who] 39)):=((Kept.alloc _ _ _).then_alloc _).then_alloc _;have hb0:=heap_old (.cells #[.string p.paper,.string who] 39) (heap_old (.cells #[.string p.paper,.string p.person] 39) (heap_at w (.cells #[.slice a0 l0 c0,.slice a1 l1 c1,.slice a2 l2 c2,.slice a3 l3 c3,.slice a4 l4 c4,.int .i64 s.due,.int .i64 s.reply] 31) _ rfl));have hb1:=heap_old (.cells #[.string p.paper,.string who] 39) (heap_at (w.alloc (.cells #[.slice a0 l0 c0,.slice a1 l1 c1,.slice a2 l2 c2,.slice a3 l3 c3,.slice a4 l4 c4,.int .i64 s.due,.int .i64 s.reply] 31)) (.cells #[.string p.paper,.string p.person] 39) (w.heap.size+1) (by simp));have hb2:=heap_at ((w.alloc (.cells #[.slice a0 l0 c0,.slice a1 l1 c1,.slice a2 l2 c2,.slice a3 l3 c3,.slice a4 l4 c4,.int .i64 s.due,.int .i64 s.reply] 31)).alloc (.cells #[.string p.paper,.string p.person] 39)) (.cells #[.string p.paper,.string who] 39) (w.heap.size+2) (by simp);obtain ⟨sb,hsb⟩ : ∃ b,b=w.heap.size:=⟨_,rfl⟩;obtain ⟨pb,hpb⟩ : ∃ b,b=w.heap.size+1:=⟨_,rfl⟩;obtain ⟨ob,hob⟩ : ∃ b,b=w.heap.size+2:=⟨_,rfl⟩;have HSB:=Lib.hid hsb;have HPB:=Lib.hid (show pb=sb+1 by omega);have HOB:=Lib.hid (show ob=pb+1 by omega);rw [← hsb] at hb0;rw [← hpb] at hb1;rw [← hob] at hb2;have hn1:=his.n1;have hn3:=his.n3;have hn4:=his.n4;have HCC:=Lib.hid (fun (wx : World) (k : All (((w.alloc (.cells #[.slice a0 l0 c0,.slice a1 l1 c1,.slice a2 l2 c2,.slice a3 l3 c3,.slice a4 l4 c4,.int .i64 s.due,.int .i64 s.reply] 31)).alloc (.cells #[.string p.paper,.string p.person] 39)).alloc (.cells #[.string p.paper,.string who] 39)) wx)=>(⟨k.heap hb1 trivial,k.heap hb2 trivial,k.heap hb0 trivial⟩ : wx.heap[pb]? = _∧wx.heap[ob]? = _∧wx.heap[sb]? = _));have HIS:=Lib.hid (fun (wx : World) (k : All (((w.alloc (.cells #[.slice a0 l0 c0,.slice a1 l1 c1,.slice a2 l2 c2,.slice a3 l3 c3,.slice a4 l4 c4,.int .i64 s.due,.int .i64 s.reply] 31)).alloc (.cells #[.string p.paper,.string p.person] 39)).alloc (.cells #[.string p.paper,.string who] 39)) wx)=>his.keep (hk1.trans k));have HVA:=Lib.hid (valid_any al ll cl ts (p.paper,who) tm (((w.alloc (.cells #[.slice a0 l0 c0,.slice a1 l1 c1,.slice a2 l2 c2,.slice a3 l3 c3,.slice a4 l4 c4,.int .i64 s.due,.int .i64 s.reply] 31)).alloc (.cells #[.string p.paper,.string p.person] 39)).alloc (.cells #[.string p.paper,.string who] 39)) (hst.keep RRaw.ok hk1) hl);rw [levelF_b];obtain ⟨lo,hlo⟩ : ∃ z,z=lastO ts (p.paper,who) tm true:=⟨_,rfl⟩;rw [← hlo] at HVA ⊢;clear hlo;obtain ⟨ab,hab⟩ : ∃ z,z=authB s.papers p.paper who:=⟨_,rfl⟩;have HAB:=Lib.hid hab;rw [← hab];clear hab;obtain ⟨rb,hrb⟩ : ∃ z,z=decide (s.reply≤tm):=⟨_,rfl⟩;have HRB:=Lib.hid hrb;rw [← hrb];clear hrb;obtain ⟨bb,hbb⟩ : ∃ z,z=inP s.barred p.paper who:=⟨_,rfl⟩;have HBB:=Lib.hid hbb;rw [← hbb];clear hbb;obtain ⟨eb,heb⟩ : ∃ z,z=(who.toList == p.person.toList):=⟨_,rfl⟩;have HEB:=Lib.hid heb;rw [← heb];clear heb;obtain ⟨cb,hcb⟩ : ∃ z,z=memB who s.chairs:=⟨_,rfl⟩;have HCB:=Lib.hid hcb;rw [← hcb];clear hcb;obtain ⟨db,hdb⟩ : ∃ z,z=lo.isSome:=⟨_,rfl⟩;rw [← hdb] at HVA ⊢;clear hdb;obtain ⟨lv,hlv⟩ : ∃ z,z=lvB ab rb bb eb cb db:=⟨_,rfl⟩;have HLV:=Lib.hid hlv;rw [← hlv];clear hlv;have HK1:=Lib.hid hk1;(have hz1 : w.heap.size+1=sb+1:=by rw [hsb]);have HZ1:=Lib.hid hz1;clear hz1;obtain ⟨t1,t2,t3⟩:=HCC.out _ (Kept.refl _ _);have p0:=cell_at (i:=0) t1 rfl;have p1:=cell_at (i:=1) t1 rfl;have o0:=cell_at (i:=0) t2 rfl;have o1:=cell_at (i:=1) t2 rfl;have k1:=cell_at (i:=1) t3 rfl;have k3:=cell_at (i:=3) t3 rfl;have k4:=cell_at (i:=4) t3 rfl;have k6:=cell_at (i:=6) t3 rfl;clear t1 t2 t3;clear hsb hpb hob hb0 hb1 hb2 hk1 his hst;(go_enter Tryz.func20,Tryz.ntmps20);(go_upto_region 2 with fail);simp only [← HSB.out,← HPB.out,← HOB.out];generalize (((w.alloc (.cells #[.slice a0 l0 c0,.slice a1 l1 c1,.slice a2 l2 c2,.slice a3 l3 c3,.slice a4 l4 c4,.int .i64 s.due,.int .i64 s.reply] 31)).alloc (.cells #[.string p.paper,.string p.person] 39)).alloc (.cells #[.string p.paper,.string who] 39))=w1 at *;(go_wp2_with fail);refine (HVA.out).mono ?_;rintro e w2 ⟨rfl,hw2⟩;obtain ⟨⟨x,aa,ac⟩,hx⟩ : ∃ z,z=lo.getD raw0:=⟨_,rfl⟩;rw [← hx];rw [show (encRaw (x,aa,ac)).toArray=revC x aa ac from rfl];have hk3:=hw2.then_alloc (.cells (revC x aa ac) 73);clear p0 p1 o0 o1 k1 k3 k4 k6;clear hx hw2;(go_upto_region 3 with fail);generalize w2.alloc (.cells (revC x aa ac) 73)=w3 at *;obtain ⟨t1,t2,t3⟩:=HCC.out _ hk3;have p0:=cell_at (i:=0) t1 rfl;have p1:=cell_at (i:=1) t1 rfl;have o0:=cell_at (i:=0) t2 rfl;have o1:=cell_at (i:=1) t2 rfl;have k1:=cell_at (i:=1) t3 rfl;have k3:=cell_at (i:=3) t3 rfl;have k4:=cell_at (i:=4) t3 rfl;have k6:=cell_at (i:=6) t3 rfl;clear t1 t2 t3;(go_wp2_with fail);refine (author_any a1 l1 c1 s.papers ⟨p.paper,who,p.h1,hwho⟩ _ (HIS.out _ hk3).papers (by omega)).mono ?_;rintro e w4 ⟨rfl,hw4⟩;have hk4:=hk3.trans hw4;rw [← HAB.out];clear p0 p1 o0 o1 k1 k3 k4 k6;obtain ⟨t1,t2,t3⟩:=HCC.out _ hk4;have p0:=cell_at (i:=0) t1 rfl;have p1:=cell_at (i:=1) t1 rfl;have o0:=cell_at (i:=0) t2 rfl;have o1:=cell_at (i:=1) t2 rfl;have k1:=cell_at (i:=1) t3 rfl;have k3:=cell_at (i:=3) t3 rfl;have k4:=cell_at (i:=4) t3 rfl;have k6:=cell_at (i:=6) t3 rfl;clear t1 t2 t3;have HA4:=Lib.hid (author_any a1 l1 c1 s.papers ⟨p.paper,who,p.h1,hwho⟩ _ (HIS.out _ hk4).papers (by omega));have hrb:=HRB.out.symm
 cases ab with
 | true =>
  cases rb with
  | true =>
   (go_wp2_with fail);go_ret;exact ⟨by rw [HLV.out,lvB_1 rfl]; rfl,HK1.out.trans hk4⟩
  | false =>
   (go_wp2_with fail);refine (HA4.out).mono ?_;rintro e w5 ⟨rfl,hw5⟩;rw [← HAB.out];clear p0 p1 o0 o1 k1 k3 k4 k6;(go_wp2_with fail);go_ret;exact ⟨by rw [HLV.out,lvB_0 rfl rfl]; rfl,HK1.out.trans (hk4.trans hw5)⟩
 | false =>
  (go_wp2_with fail);refine (HA4.out).mono ?_;rintro e w5 ⟨rfl,hw5⟩;rw [← HAB.out];have hk5:=hk4.trans hw5;clear p0 p1 o0 o1 k1 k3 k4 k6;obtain ⟨t1,t2,t3⟩:=HCC.out _ hk5;have p0:=cell_at (i:=0) t1 rfl;have p1:=cell_at (i:=1) t1 rfl;have o0:=cell_at (i:=0) t2 rfl;have o1:=cell_at (i:=1) t2 rfl;have k1:=cell_at (i:=1) t3 rfl;have k3:=cell_at (i:=3) t3 rfl;have k4:=cell_at (i:=4) t3 rfl;have k6:=cell_at (i:=6) t3 rfl;clear t1 t2 t3;clear hrb;(go_wp2_with fail);refine (containsP_any a3 l3 c3 s.barred p.paper who _ (HIS.out _ hk5).barred (by omega)).mono ?_;rintro e w6 ⟨rfl,hw6⟩;rw [← HBB.out];have hk6:=hk5.trans hw6;clear p0 p1 o0 o1 k1 k3 k4 k6;obtain ⟨t1,t2,t3⟩:=HCC.out _ hk6;have p0:=cell_at (i:=0) t1 rfl;have p1:=cell_at (i:=1) t1 rfl;have o0:=cell_at (i:=0) t2 rfl;have o1:=cell_at (i:=1) t2 rfl;have k1:=cell_at (i:=1) t3 rfl;have k3:=cell_at (i:=3) t3 rfl;have k4:=cell_at (i:=4) t3 rfl;have k6:=cell_at (i:=6) t3 rfl;clear t1 t2 t3;have heq:=HEB.out.symm
  cases bb with
  | true =>
   (go_wp2_with fail);go_ret;exact ⟨by rw [HLV.out,lvB_0 rfl rfl]; rfl,HK1.out.trans hk6⟩
  | false =>
   cases eb with
   | true =>
    (go_wp2_with fail);go_ret;exact ⟨by rw [HLV.out,lvB_3 rfl rfl]; rfl,HK1.out.trans hk6⟩
   | false =>
    (go_wp2_with fail);refine (contains_any a4 l4 c4 s.chairs who _ (HIS.out _ hk6).chairs (by omega)).mono ?_;rintro e w' ⟨rfl,rfl⟩;rw [← HCB.out]
    cases cb with
    | true =>
     (go_wp2_with fail);go_ret;exact ⟨by rw [HLV.out,lvB_3 rfl rfl]; rfl,HK1.out.trans hk6⟩
    | false =>
     cases db with
     | true =>
      (go_wp2_with fail);go_ret;exact ⟨by rw [HLV.out,lvB_2 rfl rfl rfl]; rfl,HK1.out.trans hk6⟩
     | false =>
      (go_wp2_with fail);go_ret;exact ⟨by rw [HLV.out,lvB_z rfl rfl rfl]; rfl,HK1.out.trans hk6⟩
open Go.RowKit Go.Sort

def AllD (w w' : World) : Prop:=All w w'∧w.drawn≤w'.drawn
theorem AllD.refl (w : World) : AllD w w:=⟨Kept.refl _ _,Nat.le_refl _⟩
theorem AllD.trans {a b c : World} (h : AllD a b) (k : AllD b c) : AllD a c:=⟨h.1.trans k.1,Nat.le_trans h.2 k.2⟩
theorem AllD.then_drewN {a w : World} (h : AllD a w) (n : Nat) : AllD a (w.drewN n):=⟨h.1.then_drewN n,Nat.le_trans h.2 (Nat.le_add_right _ _)⟩
theorem AllD.then_drew {a w : World} (h : AllD a w) : AllD a w.drew:=⟨h.1.then_drew,Nat.le_trans h.2 (Nat.le_add_right _ _)⟩
theorem AllD.then_alloc {a w : World} (h : AllD a w) (o : Obj) : AllD a (w.alloc o):=⟨h.1.then_alloc o,h.2⟩
theorem AllD.grow {w w' : World} (h : AllD w w') : ∃ (q : Nat) (os : Array Obj),w'=Go.Sort.grow (w.drewN q) os:=by
 obtain ⟨⟨h1,h2,h3,h4,h5⟩,h6⟩:=h;refine ⟨w'.drawn - w.drawn,w'.heap.extract w.heap.size w'.heap.size,?_⟩;have e1 : w'.heap=w.heap ++ w'.heap.extract w.heap.size w'.heap.size:=by
  apply Array.ext_getElem?
  intro i;by_cases hi : i < w.heap.size
  ·rw [Array.getElem?_append_left hi];exact h5 i hi trivial
  ·rw [Array.getElem?_append_right (by omega),Array.getElem?_extract];by_cases hi2 : i < w'.heap.size
   ·rw [if_pos (by omega)]
    congr 1
    omega
   ·rw [if_neg (by omega),Array.getElem?_eq_none (by omega)]
 have e2 : w'.drawn=w.drawn+(w'.drawn - w.drawn):=by omega
 cases w' with
 | mk heap tape drawn os output =>
  cases w with
  | mk heap0 tape0 drawn0 os0 output0 =>
   simp only at *;subst h1 h2 h3;simp only [Go.Sort.grow,World.drewN,World.mk.injEq,true_and,and_true];exact ⟨e1,e2⟩

open Go.RowKit Go.Sort

section
variable {α : Type} [Inhabited α]
theorem swp_len (d : Array α) (i j : Nat) : (swp d i j).size=d.size:=by simp [swp]
theorem swp_get (d : Array α) (j q : Nat) (hj : j+1 < d.size) : (swp d (j+1) j)[q]! = if q=j+1 then d[j]! else if q=j then d[j+1]! else d[q]!:=by
 unfold swp;by_cases h1 : q < d.size
 ·have e : ((d.setIfInBounds (j+1) d[j]!).setIfInBounds j d[j+1]!)[q]! = ((d.setIfInBounds (j+1) d[j]!).setIfInBounds j d[j+1]!)[q]'(by simpa using h1):=getElem!_pos _ _ _;rw [e,Array.getElem_setIfInBounds (by simpa using h1),Array.getElem_setIfInBounds h1];by_cases hq1 : q=j+1
  ·subst hq1; simp
  ·by_cases hq2 : q=j
   ·subst hq2; simp
   ·rw [if_neg (fun e=>hq2 e.symm),if_neg (fun e=>hq1 e.symm),if_neg hq1,if_neg hq2,getElem!_pos d q h1]
 ·rw [getElem!_neg _ _ (by simpa using h1),if_neg (by omega),if_neg (by omega),getElem!_neg d q h1]
theorem insInner_rest (lt : α→α→Bool) : ∀ (j : Nat) (d : Array α),j < d.size→(insInner lt 0 j d).size=d.size∧(∀ q,j < q→(insInner lt 0 j d)[q]! = d[q]!)∧∀ P : α→Prop,(∀ q,q≤j→P d[q]!)→∀ q,q≤j→P (insInner lt 0 j d)[q]!
 | 0,d,_=>⟨rfl,fun _ _=>rfl,fun _ h=>h⟩
 | j+1,d,hj=>by
  unfold insInner;split
  ·have hs : (swp d (j+1) j).size=d.size:=swp_len _ _ _;obtain ⟨h1,h2,h3⟩:=insInner_rest lt j (swp d (j+1) j) (by omega);refine ⟨by rw [h1,hs],fun q hq=>by rw [h2 q (by omega),swp_get d j q hj,if_neg (by omega),if_neg (by omega)],fun P hP q hq=>?_⟩;by_cases hq2 : q≤j
   ·refine h3 P (fun t ht=>?_) q hq2;rw [swp_get d j t hj];split
    ·omega
    split
    ·exact hP _ (Nat.le_refl _)
    ·exact hP t (by omega)
   ·rw [h2 q (by omega),swp_get d j q hj,if_pos (by omega)];exact hP j (by omega)
  ·exact ⟨rfl,fun _ _=>rfl,fun _ h=>h⟩
theorem insInner_same (lt lt2 : α→α→Bool) (rk : α→Int) (hl : ∀ x y,rk x < rk y→lt y x=lt2 y x) : ∀ (j : Nat) (d : Array α),j < d.size→(∀ q,q < j→rk d[q]! < rk d[j]!)→insInner lt 0 j d=insInner lt2 0 j d
 | 0,_,_,_=>rfl
 | j+1,d,hj,h=>by
  have e:=hl _ _ (h j (by omega));unfold insInner;rw [e];split
  ·refine insInner_same lt lt2 rk hl j _ (by rw [swp_len]; omega) (fun q hq=>?_);rw [swp_get d j q hj,swp_get d j j hj,if_neg (by omega),if_neg (by omega),if_neg (by omega),if_pos rfl];exact h q (by omega)
  ·rfl
theorem insOuter_same (lt lt2 : α→α→Bool) (rk : α→Int) (hl : ∀ x y,rk x < rk y→lt y x=lt2 y x) (b : Nat) : ∀ (n i : Nat) (d : Array α),b - i=n→b≤d.size→(∀ q p,q < i→i≤p→p < b→rk d[q]! < rk d[p]!)→(∀ q p,i≤q→q < p→p < b→rk d[q]! < rk d[p]!) →
  insOuter lt 0 b i d=insOuter lt2 0 b i d
 | 0,i,d,hn,_,_,_=>by rw [insOuter,if_neg (by omega),insOuter,if_neg (by omega)]
 | n+1,i,d,hn,hb,h1,h2=>by
  (have hib : i < b:=by omega);rw [insOuter,if_pos hib,insOuter.eq_1 lt2,if_pos hib,← insInner_same lt lt2 rk hl i d (by omega) (fun q hq=>h1 q i hq (Nat.le_refl _) hib)];obtain ⟨g1,g2,g3⟩:=insInner_rest lt i d (by omega);refine insOuter_same lt lt2 rk hl b n (i+1) _ (by omega) (by omega) (fun q p hq hp hpb=>?_) (fun q p hq hqp hpb=>?_)
  ·rw [g2 p (by omega)];exact g3 (fun x=>rk x < rk d[p]!) (fun t ht=>by
    by_cases hti : t < i
    ·exact h1 t p hti (by omega) hpb
    ·(have : t=i:=by omega);subst this; exact h2 t p (Nat.le_refl _) (by omega) hpb) q (by omega)
  ·rw [g2 p (by omega),g2 q (by omega)]; exact h2 q p (by omega) hqp hpb
theorem insertion_same (lt lt2 : α→α→Bool) (rk : α→Int) (hl : ∀ x y,rk x < rk y→lt y x=lt2 y x) (xs : List α) (hx : xs.Pairwise fun x y=>rk x < rk y) : insertionSort lt xs.toArray 0 xs.length=insertionSort lt2 xs.toArray 0 xs.length:=by
 have hg : ∀ q p,q < p→p < xs.length→rk xs.toArray[q]! < rk xs.toArray[p]!:=fun q p hqp hp=>by
  have:=List.pairwise_iff_getElem.1 hx q p (by omega) hp hqp;simpa [hp,show q < xs.length by omega] using this
 exact insOuter_same lt lt2 rk hl xs.length _ 1 _ rfl (by simp) (fun q p hq hp hpb=>hg q p (by omega) hpb) (fun q p _ hqp hpb=>hg q p hqp hpb)
end

def cmpZ (a b : Int) : Int:=if a < b then -1 else if b < a then 1 else 0
theorem cmpZ_lt {a b : Int} (h : a < b) : cmpZ a b = -1:=by unfold cmpZ; rw [if_pos h]
theorem cmpZ_gt {a b : Int} (h : b < a) : cmpZ a b=1:=by unfold cmpZ; rw [if_neg (by omega),if_pos h]
theorem cmpZ_eq {a b : Int} (h : a=b) : cmpZ a b=0:=by unfold cmpZ; rw [if_neg (by omega),if_neg (by omega)]
def cfV (x y : Rev) : Int:=if x.tm < y.tm then -1 else if y.tm < x.tm then 1 else cmpZ x.no y.no
theorem cfV_neg {x y : Rev} : cfV x y < 0 ↔ x.tm < y.tm∨(x.tm=y.tm∧x.no < y.no):=by
 unfold cfV cmpZ;split
 ·simp; omega
 split
 ·simp; omega
 split
 ·simp; omega
 split <;> simp <;> omega
theorem cfV_zero {x y : Rev} : cfV x y=0 ↔ x.tm=y.tm∧x.no=y.no:=by
 unfold cfV cmpZ;split
 ·simp; omega
 split
 ·simp; omega
 split
 ·simp; omega
 split <;> simp <;> omega
theorem cfV_le {x y : Rev} : cfV x y≤0 ↔ x.tm < y.tm∨(x.tm=y.tm∧x.no≤y.no):=by
 have h1:=@cfV_neg x y;have h2:=@cfV_zero x y;constructor
 ·intro h;rcases Int.lt_or_le (cfV x y) 0 with h3 | h3
  ·have:=h1.1 h3; omega
  ·have:=h2.1 (by omega); omega
 ·intro h;by_cases h3 : x.no=y.no∧x.tm=y.tm
  ·have:=h2.2 ⟨h3.2,h3.1⟩; omega
  ·have:=h1.2 (by omega); omega
theorem cfV_flip {x y : Rev} (h : 0 < cfV x y) : cfV y x < 0:=by
 (have h1 : ¬ cfV x y≤0:=by omega);rw [cfV_le] at h1;rw [cfV_neg]; omega
theorem isCmpV {α : Type} (f : α→Rev) : IsCmp (fun x y : α=>cfV (f x) (f y)) where
 zero x y h:=by rw [cfV_zero] at *; omega
 refl x:=by rw [cfV_zero]; omega
 neg x y h:=cfV_flip h
 lt x y z h1 h2:=by rw [cfV_neg] at *; rw [cfV_le] at h2; omega
 lt2 x y z h1 h2:=by rw [cfV_neg] at *; rw [cfV_le] at h1; omega
 eq x y z h1 h2:=by rw [cfV_zero] at *; omega
theorem isCmpD {α : Type} (f : α→Int) : IsCmp (fun x y : α=>f x - f y) where
 zero x y h:=by omega
 refl x:=by omega
 neg x y h:=by omega
 lt x y z h1 h2:=by omega
 lt2 x y z h1 h2:=by omega
 eq x y z h1 h2:=by omega
def OrdV (V q : List Rev) : Prop:=q.Perm V∧q.Pairwise fun x y=>cfV x y≤0
theorem nos_inj {V : List Rev} (hn : (V.map (·.no)).Nodup) {x y : Rev} (hx : x ∈ V) (hy : y ∈ V) (h : x.no=y.no) : x=y:=by
 induction V with
 | nil=>exact nomatch hx
 | cons v V ih =>
  rw [List.map_cons,List.nodup_cons] at hn;rcases List.mem_cons.1 hx with hxv | hx
  ·rcases List.mem_cons.1 hy with hyv | hy
   ·rw [hxv,hyv]
   ·rw [hxv] at h; exact absurd (List.mem_map.2 ⟨y,hy,h.symm⟩) hn.1
  ·rcases List.mem_cons.1 hy with hyv | hy
   ·rw [hyv] at h; exact absurd (List.mem_map.2 ⟨x,hx,h⟩) hn.1
   ·exact ih hn.2 hx hy
theorem OrdV.uniq {V a b : List Rev} (hn : (V.map (·.no)).Nodup) (ha : OrdV V a) (hb : OrdV V b) : a=b:=by
 refine List.Perm.eq_of_pairwise (le:=fun x y=>cfV x y≤0) (fun x y hx hy h1 h2=>?_) ha.2 hb.2 (ha.1.trans hb.1.symm);rw [cfV_le] at h1 h2;exact nos_inj hn (ha.1.mem_iff.1 hx) (hb.1.mem_iff.1 hy) (by omega)
theorem stable_ord {α : Type} [Inhabited α] (f : α→Rev) {xs : List α} (hn : ((xs.map f).map (·.no)).Nodup) (hs : xs.Pairwise fun x y=>(f x).no - (f y).no≤0) :
  ((insertionSort (ltOf fun x y=>(f x).tm - (f y).tm) xs.toArray 0 xs.length).toList).Perm xs∧(insertionSort (ltOf fun x y=>(f x).tm - (f y).tm) xs.toArray 0 xs.length).toList.Pairwise (fun x y=>cfV (f x) (f y)≤0):=by
 have hlt : xs.Pairwise fun x y=>(f x).no < (f y).no:=by
  rw [List.map_map,List.Nodup,List.pairwise_map] at hn;exact (hn.and hs).imp fun {x y} h=>by
   have h1 : (f x).no≠(f y).no:=h.1;omega
 rw [insertion_same _ (ltOf fun x y=>cfV (f x) (f y)) (fun x=>(f x).no) (fun x y h=>by
  (have h1 : (f y).tm - (f x).tm < 0 ↔ cfV (f y) (f x) < 0:=by rw [cfV_neg]; omega);unfold ltOf;rw [decide_eq_decide]; exact h1) xs hlt]
 obtain ⟨h1,h2⟩:=insertionSort_holds (isCmpV f).swo xs.toArray 0 xs.length (Nat.zero_le _) (by simp);obtain ⟨hd,hp⟩:=perm_list h1;exact ⟨hp,sorted_list (isCmpV f) h2 hd⟩

def secQ (sheet : List Qst) (a : Ans4) : Bool:=match sheet.find? (isQ a.question) with | none=>false | some q=>q.secret
def openF (sheet : List Qst) (l : List Ans4) : List Ans4:=l.filter fun a=>!secQ sheet a
def readerB (i : Nat) : ByteArray:=catR ⟨#[114,101,97,100,101,114,45]⟩ ⟨(Lib.itoa ((i : Int)+1)).toArray⟩
def blindR (sheet : List Qst) (i : Nat) (r : Rev) : Rev:={ r with no:=0,person:=readerB i,answers:=openF sheet r.answers }
def blindL (sheet : List Qst) (l : List Rev) : List Rev:=l.mapIdx (blindR sheet)
def hideR (lv : Int) (r : Rev) : Rev:=if lv=3 then r else { r with by_:=⟨#[]⟩ }
theorem hideR_no (lv : Int) (r : Rev) : (hideR lv r).no=r.no:=by unfold hideR; split <;> rfl
theorem hideR_ans (lv : Int) (r : Rev) : (hideR lv r).answers=r.answers:=by unfold hideR; split <;> rfl
noncomputable def visO (s : Set7) (ts : List Raw) (who paper : ByteArray) (tm : Int) (p : Pair2) : Option Raw :=
 if p.paper=paper∧levelF s ts who p tm≠0 then (lastO ts (p.paper,p.person) tm (!decide (p.person=who))).map (fun z=>(hideR (levelF s ts who p tm) z.1,z.2)) else none
noncomputable def visL (s : Set7) (ts : List Raw) (who paper : ByteArray) (tm : Int) (ps : List Pair2) : List Raw:=ps.filterMap (visO s ts who paper tm)
section
variable {s : Set7} {ts : List Raw} {who paper : ByteArray} {tm : Int}
theorem visL_snoc {ps : List Pair2} {k : Nat} {p : Pair2} (h : ps.take (k+1)=ps.take k ++ [p]) : visL s ts who paper tm (ps.take (k+1))=visL s ts who paper tm (ps.take k) ++ (visO s ts who paper tm p).toList:=by
 rw [h,visL,List.filterMap_append];show _ ++ [p].filterMap _=_
 cases hv : visO s ts who paper tm p with
 | none=>simp [List.filterMap,hv,visL]
 | some z=>simp [List.filterMap,hv,visL]
theorem visL_take (ps : List Pair2) (k : Nat) : (visL s ts who paper tm (ps.take k)).length≤k:=Nat.le_trans (List.length_filterMap_le _ _) (List.length_take_le _ _)
theorem lastO_k2 {p : K2} {dn : Bool} {z : Raw} (h : lastO ts p tm dn=some z) : (z.1.paper,z.1.person)=p:=by
 have h1:=List.mem_reverse.1 (List.mem_of_find?_eq_some h);have h2:=(List.mem_filter.1 h1).2
 rwa [decide_eq_true_iff] at h2
theorem lastO_in {p : K2} {dn : Bool} {z : Raw} (h : lastO ts p tm dn=some z) : z ∈ ts:=mem_bookF (List.mem_reverse.1 (List.mem_of_find?_eq_some h))
theorem visO_from {p : Pair2} {z : Raw} (h : visO s ts who paper tm p=some z) : p.paper=paper∧levelF s ts who p tm≠0∧∃ y,y ∈ ts∧(y.1.paper,y.1.person)=(p.paper,p.person)∧z=(hideR (levelF s ts who p tm) y.1,y.2):=by
 unfold visO at h;split at h
 ·rename_i h1
  cases hl : lastO ts (p.paper,p.person) tm (!decide (p.person=who)) with
  | none=>rw [hl] at h; exact nomatch h
  | some y =>
   rw [hl] at h;injection h with h;exact ⟨h1.1,h1.2,y,lastO_in hl,lastO_k2 hl,h.symm⟩
 ·exact nomatch h
end
theorem revsG_no {s : Set7} : ∀ (l : List Rev) (no : Nat) (prev : Option Rev),revsG s no prev l=0→∀ (i : Nat) (r : Rev),l[i]? = some r→r.no=((no+i : Nat) : Int)
 | [],_,_,_,i,r,hr=>by simp at hr
 | x :: l,no,prev,h,i,r,hr=>by
  rw [revsG_cons] at h;split at h
  ·rename_i h0; exact absurd h h0
  ·rename_i h0
   cases i with
   | zero =>
    rw [List.getElem?_cons_zero] at hr;injection hr with hr;subst hr;exact (revF_parts (Classical.not_not.1 h0)).1
   | succ i =>
    rw [List.getElem?_cons_succ] at hr;have:=revsG_no l _ _ h i r hr;omega
theorem revsF_nos {s : Set7} {xs : List Rev} (h : revsF s xs=0) {x y : Rev} (hx : x ∈ xs) (hy : y ∈ xs) (hn : x.no=y.no) : x=y:=by
 unfold revsF at h;split at h
 ·rename_i h1; exact absurd h h1
 split at h
 ·omega
 obtain ⟨i,hi⟩:=List.mem_iff_getElem?.1 hx;obtain ⟨j,hj⟩:=List.mem_iff_getElem?.1 hy;have h1:=revsG_no xs 1 none h i x hi;have h2:=revsG_no xs 1 none h j y hj;(have : i=j:=by omega);subst this;rw [hi] at hj;injection hj
theorem revsF_noR {s : Set7} {xs : List Rev} (h : revsF s xs=0) {x : Rev} (hx : x ∈ xs) : 1≤x.no∧x.no≤3000:=by
 unfold revsF at h;split at h
 ·rename_i h1; exact absurd h h1
 split at h
 ·omega
 rename_i h3
 obtain ⟨i,hi⟩:=List.mem_iff_getElem?.1 hx;have h1:=revsG_no xs 1 none h i x hi;have h2:=(List.getElem?_eq_some_iff.1 hi).1;omega
theorem ltPP_ne {p q : Pair2} (h : ltPP p q) : ¬ (p.paper=q.paper∧p.person=q.person):=by
 rintro ⟨h1,h2⟩;unfold ltPP at h;rw [h1,h2] at h;(have h3 : cmpP q.paper q.person q.paper q.person=0:=by unfold cmpP; rw [if_neg (by simp [(cmp_zero _ _).2 rfl])]; exact (cmp_zero _ _).2 rfl);omega
section
variable {s : Set7} {ts : List Raw} {who paper : ByteArray} {tm : Int}
theorem visL_nos (hr : revsF s (ts.map (·.1))=0) : (((visL s ts who paper tm s.pairs).map (·.1)).map (·.no)).Nodup:=by
 have hp:=(setupF_rises (revsF_setup0 hr)).2.2.1;rw [List.map_map,List.Nodup,List.pairwise_map];refine hp.filterMap _ (fun p q hpq z hz y hy=>?_);obtain ⟨-,-,z0,hz0,hk0,rfl⟩:=visO_from hz;obtain ⟨-,-,y0,hy0,hk1,rfl⟩:=visO_from hy;intro he;simp only [Function.comp,hideR_no] at he;have:=revsF_nos hr (List.mem_map_of_mem hz0) (List.mem_map_of_mem hy0) he;rw [this,hk1] at hk0;injection hk0 with h1 h2;exact ltPP_ne hpq ⟨h1.symm,h2.symm⟩
theorem visL_from {ps : List Pair2} {z : Raw} (h : z ∈ visL s ts who paper tm ps) : ∃ p y,p ∈ ps∧y ∈ ts∧(y.1.paper,y.1.person)=(p.paper,p.person)∧z=(hideR (levelF s ts who p tm) y.1,y.2):=by
 obtain ⟨p,hp,hv⟩:=List.mem_filterMap.1 h;obtain ⟨-,-,y,h1,h2,h3⟩:=visO_from hv;exact ⟨p,y,hp,h1,h2,h3⟩
theorem visL_len (hr : revsF s (ts.map (·.1))=0) : (visL s ts who paper tm s.pairs).length≤ts.length:=by
 have h1:=(visL_nos (who:=who) (paper:=paper) (tm:=tm) hr).length_le_of_subset (l₂:=ts.map (·.1.no)) (fun n hn=>by
  obtain ⟨r,hr1,rfl⟩:=List.mem_map.1 hn;obtain ⟨z,hz,rfl⟩:=List.mem_map.1 hr1;obtain ⟨p,y,-,hy,-,rfl⟩:=visL_from hz;exact List.mem_map.2 ⟨y,hy,(hideR_no _ _).symm⟩)
 simpa using h1
end
theorem levelF_author {s : Set7} {ts : List Raw} {who : ByteArray} {p : Pair2} {tm : Int} (h : authB s.papers p.paper who=true) (hl : levelF s ts who p tm≠0) : levelF s ts who p tm=1:=by
 unfold levelF at *;rw [if_pos h] at *;split at hl
 ·rename_i h1; rw [if_pos h1]
 ·exact absurd rfl hl
theorem levelF_other {s : Set7} {ts : List Raw} {who : ByteArray} {p : Pair2} {tm : Int} (h : authB s.papers p.paper who=false) : levelF s ts who p tm≠1:=by
 unfold levelF;rw [if_neg (by simp [h])];split
 ·decide
 split
 ·decide
 split <;> decide
structure ViewIs (s : Set7) (ts : List Raw) (who paper : ByteArray) (tm : Int) (out : List Rev) : Prop where
 auth : authB s.papers paper who=true→∃ q,OrdV ((visL s ts who paper tm s.pairs).map (·.1)) q∧out=blindL s.sheet q
 all : authB s.papers paper who=false→out=(visL s ts who paper tm s.pairs).map (·.1)
theorem ViewIs.uniq {s : Set7} {ts : List Raw} {who paper : ByteArray} {tm : Int} {a b : List Rev} (hr : revsF s (ts.map (·.1))=0) (ha : ViewIs s ts who paper tm a) (hb : ViewIs s ts who paper tm b) : a=b:=by
 cases h : authB s.papers paper who with
 | true =>
  obtain ⟨q,h1,h2⟩:=ha.auth h;obtain ⟨q',h3,h4⟩:=hb.auth h;rw [h2,h4,OrdV.uniq (visL_nos hr) h1 h3]
 | false=>rw [ha.all h,hb.all h]
open Go.RowKit

def orL : List Int→Int
 | []=>0
 | x :: l=>if x≠0 then x else orL l
set_option maxRecDepth 100000 in
set_option maxHeartbeats 3200000 in
theorem orI_any (a : Option Addr) (len cap : Nat) (xs : List Int) (w : World) (hs : Sl RInt 1 (fun _=>True) w a len xs) (hl : len≤1000000) :
  Calls Tryz.prog 86 #[.slice a len cap] w fun e w'=>e=.returned (.int .i64 (orL xs))∧w=w':=by
 have Hlen:=Lib.hid hs.len;obtain ⟨r,hr⟩ : ∃ r,r=orL xs:=⟨_,rfl⟩;have HR:=Lib.hid hr;rw [← hr];clear hr;(go_enter Tryz.func86,Tryz.ntmps86);(go_wp2_with fail);go_loopw [8] (fun i wr=>∃ k : Nat,k≤len∧i=.int .i64 k∧Hid (r=orL (xs.drop k))∧wr=w) (fun i _=>len - (intOf i).toNat)
 case atStart=>exact ⟨0,Nat.zero_le _,rfl,HR,rfl⟩
 case round =>
  obtain ⟨k,hk,rfl,HK,rfl⟩:=hrel;by_cases hlt : k < len
  ·obtain ⟨b,o,rfl,-,hc⟩:=hs.ints (by omega);have h0:=hc k hlt;obtain ⟨x,hx⟩ : ∃ x,xs[k]? = some x:=⟨_,List.getElem?_eq_getElem (by have:=Hlen.out; omega)⟩;have hd:=drop_at hx;rw [List.getD_eq_getElem?_getD,hx] at h0;simp only [Option.getD_some] at h0;(have hdk : decide ((k : Int) < (len : Int))=true:=by simp; omega);(have f1 : (0 : Int)≤(k : Int):=by omega);(have f2 : (k : Int) < (len : Int):=by omega);by_cases hz : x=0
   ·(have hne : (x != 0)=false:=by simpa using hz);have HN:=Lib.hid (show r=orL (xs.drop (k+1)) from by rw [HK.out,hd,orL,if_neg (by simp [hz])]);clear hd hc hx hz;(go_wp2_with fail);go_roundw
    case rel=>exact ⟨k+1,by omega,by go_num,HN,by trivial⟩
    case measure=>simp [intOf]; omega
   ·(have hne : (x != 0)=true:=by simpa using hz);have HN:=Lib.hid (show r=x from by rw [HK.out,hd,orL,if_pos hz]);clear hd hc hx hz;(go_wp2_with fail);go_ret;exact ⟨by rw [HN.out]; rfl,rfl⟩
  ·(have hdk : decide ((k : Int) < (len : Int))=false:=by simp; omega);have HN:=Lib.hid (show r=0 from by rw [HK.out,List.drop_of_length_le (by have:=Hlen.out; omega)]; rfl);(go_wp2_with fail);go_ret;exact ⟨by rw [HN.out]; rfl,rfl⟩

theorem isNaNZ_any (a : Int) (w : World) : Calls Tryz.prog 160 #[.int .i64 a] w fun e w'=>e=.returned (.bool false)∧w=w':=by
 (have hn : (a != a)=false:=by simp);(go_enter Tryz.func160,Tryz.ntmps160);(go_wp2_with fail);go_ret;exact ⟨rfl,rfl⟩
theorem compareZ_any (a b : Int) (w : World) : Calls Tryz.prog 87 #[.int .i64 a,.int .i64 b] w fun e w'=>e=.returned (.int .i64 (cmpZ a b))∧w=w':=by
 rcases Int.lt_trichotomy a b with h | h | h
 ·have HF:=Lib.hid (cmpZ_lt h);(have d1 : decide (a < b)=true:=by simpa using h);(go_enter Tryz.func87,Tryz.ntmps87);(go_wp2_with (go_at_call 160; refine (isNaNZ_any _ _).mono ?_; rintro e w' ⟨rfl,rfl⟩));go_ret;exact ⟨ret_int' HF.out.symm,rfl⟩
 ·have HF:=Lib.hid (cmpZ_eq h);subst h;(have d1 : decide (a < a)=false:=by simp);(go_enter Tryz.func87,Tryz.ntmps87);(go_wp2_with (go_at_call 160; refine (isNaNZ_any _ _).mono ?_; rintro e w' ⟨rfl,rfl⟩));go_ret;exact ⟨ret_int' HF.out.symm,rfl⟩
 ·have HF:=Lib.hid (cmpZ_gt h);(have d1 : decide (a < b)=false:=by simp; omega);(have d2 : decide (b < a)=true:=by simpa using h);(go_enter Tryz.func87,Tryz.ntmps87);(go_wp2_with (go_at_call 160; refine (isNaNZ_any _ _).mono ?_; rintro e w' ⟨rfl,rfl⟩));go_ret;exact ⟨ret_int' HF.out.symm,rfl⟩

theorem QIs.staysD (u : Value) : Stays AllD (QIs u):=fun _ _ _ _ h=>h
theorem QRow.staysD (cs : Array Value) (T : TypeId) : Stays AllD (QRow cs T):=fun _ _ _ k h=>QRow.stays cs T _ _ _ k.1 h
def QRowN (cs : Array Value) (T : TypeId) (n : Nat) (v : Value) (w : World) : Prop:=∃ b,v=.slice (some ⟨b,0,none⟩) n n∧w.heap[b]? = some (.cells cs T (0,0))
theorem QRowN.staysD (cs : Array Value) (T : TypeId) (n : Nat) : Stays AllD (QRowN cs T n):=fun _ _ _ k ⟨b,h1,h2⟩=>⟨b,h1,k.1.heap h2 trivial⟩


theorem orL_two (a b : Int) : orL [a,b]=if a≠0 then a else b:=by
 simp only [orL];split
 ·rfl
 split
 ·rfl
 ·omega
theorem orL_cfV (x y : Rev) : orL [cmpZ x.tm y.tm,cmpZ x.no y.no]=cfV x y:=by
 rw [orL_two];rcases Int.lt_trichotomy x.tm y.tm with h | h | h
 ·(have e : cfV x y = -1:=by unfold cfV; rw [if_pos h]);rw [cmpZ_lt h,e]; rfl
 ·(have e : cfV x y=cmpZ x.no y.no:=by unfold cfV; rw [if_neg (by omega),if_neg (by omega)]);rw [cmpZ_eq h,e]; rfl
 ·(have e : cfV x y=1:=by unfold cfV; rw [if_neg (by omega),if_pos h]);rw [cmpZ_gt h,e]; rfl
open Go.RowKit

theorem Acc.apartV {α β : Type} {R : Rel α} {R' : Rel β} {sz sz' : Nat} {T T' : TypeId} {F F' : Nat→Prop} {B B' : Nat} {w : World} {v v' : Value} {xs : List α} {ys : List β} (h : Acc R sz T F B w v xs) (h' : Acc R' sz' T' F' B' w v' ys) (hne : T'≠T) : ∀ k,v.ownBlock=some k→v'.ownBlock≠some k:=by
 intro k h1 h2;obtain ⟨cells,ho,-⟩:=h;rcases ho.2 with ⟨rfl,-⟩ | ⟨g,cap,cur,rfl,-,hg,-⟩
 ·cases h1
 ·injection h1 with h1;exact h'.notType hg hne k h2 h1.symm
theorem kept_own {w w' : World} {o : Option Nat} (hg : w.grownBy w' o) : Kept (fun k=>o≠some k) w w':=⟨hg.os,hg.tape,hg.output,hg.size,fun k hk hf=>hg.block k hk (fun e=>hf e.symm)⟩
theorem Acc.setRaw {T : TypeId} {F : Nat→Prop} {B : Nat} {w : World} {g n c : Nat} {zs : List Raw} {i : Nat} {z z' : Raw} (h : Acc RRaw 7 T F B w (.slice (some ⟨g,0,none⟩) n c) zs) (hi : zs[i]? = some z) {j : Nat} (hj : j < 7) (u : Value) (hc : (encRaw z).set j u=encRaw z') (hs : RevSmall z'.1) :
  Acc RRaw 7 T F B (w.setCell ⟨g,i*7+j,none⟩ u) (.slice (some ⟨g,0,none⟩) n c) (zs.set i z'):=by
 obtain ⟨hil,hz⟩:=List.getElem?_eq_some_iff.1 hi;obtain ⟨g',vs,hg,-,-,h1,h2⟩:=h.elem hil;injection hg with hg;injection hg with hg;subst hg;refine h1.store RRaw.ok hj u ⟨?_,hs⟩;rw [h2.1,hz,hc]
abbrev ansV (z : Raw) : Value:=.slice z.2.1 z.1.answers.length z.2.2
structure RowA (B : Nat) (w : World) (v : Value) (zs : List Raw) : Prop where
 row : Acc RRaw 7 73 (fun _=>False) B w v zs
 ans : ∀ z ∈ zs,Acc RAns 4 143 (fun _=>False) B w (ansV z) z.1.answers
 sep : zs.Pairwise fun y z=>∀ k,(ansV y).ownBlock=some k→(ansV z).ownBlock≠some k
section
variable {B : Nat} {w w' : World} {v v' : Value} {zs qs : List Raw}
theorem RowA.nil (B : Nat) (w : World) : RowA B w (.slice none 0 0) []:=⟨Acc.nil _ _ _ _ _ _,(fun _ h=>nomatch h),List.Pairwise.nil⟩
theorem RowA.keep (h : RowA B w v zs) (k : All w w') : RowA B w' v zs:=⟨h.row.keepAll RRaw.ok k,fun z hz=>(h.ans z hz).keepAll RAns.ok k,h.sep⟩
theorem RowA.ansKeep (h : RowA B w v zs) {z : Raw} (ha : Acc RAns 4 143 (fun _=>False) B w (ansV z) z.1.answers) (k : Kept (fun k=>v.ownBlock≠some k) w w') : Acc RAns 4 143 (fun _=>False) B w' (ansV z) z.1.answers :=
 ha.keep RAns.ok k (fun _ h=>h.elim) (fun k hk e=>h.row.apartV ha (by decide) k e hk)
theorem RowA.push (h : RowA B w v zs) {z : Raw} (hrow : Acc RRaw 7 73 (fun _=>False) B w' v' (zs ++ [z])) (hg : w.grownBy w' v.ownBlock) (ha : Acc RAns 4 143 (fun _=>False) B w (ansV z) z.1.answers)
  (hf : ∀ y ∈ zs,∀ k,(ansV y).ownBlock=some k→(ansV z).ownBlock≠some k) : RowA B w' v' (zs ++ [z]):=by
 refine ⟨hrow,fun y hy=>?_,List.pairwise_append.2 ⟨h.sep,List.pairwise_singleton _ _,fun y hy x hx=>?_⟩⟩
 ·rcases List.mem_append.1 hy with hy | hy
  ·exact h.ansKeep (h.ans y hy) (kept_own hg)
  ·rw [List.mem_singleton.1 hy]; exact h.ansKeep ha (kept_own hg)
 ·rw [List.mem_singleton.1 hx]; exact hf y hy
theorem RowA.sorted (h : RowA B w v zs) (hp : qs.Perm zs) (hrow : Acc RRaw 7 73 (fun _=>False) B w' v qs) (hg : w.grownBy w' v.ownBlock) : RowA B w' v qs :=
 ⟨hrow,fun z hz=>h.ansKeep (h.ans z (hp.mem_iff.1 hz)) (kept_own hg),(hp.pairwise_iff (fun hxy k h1 h2=>hxy k h2 h1)).2 h.sep⟩
theorem RowA.sepAt (h : RowA B w v zs) {i j : Nat} {y z : Raw} (hij : i≠j) (hi : zs[i]? = some y) (hj : zs[j]? = some z) : ∀ k,(ansV y).ownBlock=some k→(ansV z).ownBlock≠some k:=by
 obtain ⟨hil,rfl⟩:=List.getElem?_eq_some_iff.1 hi;obtain ⟨hjl,rfl⟩:=List.getElem?_eq_some_iff.1 hj;rcases Nat.lt_or_gt_of_ne hij with h1 | h1
 ·exact List.pairwise_iff_getElem.1 h.sep i j hil hjl h1
 ·exact fun k e1 e2=>List.pairwise_iff_getElem.1 h.sep j i hjl hil h1 k e2 e1
theorem RowA.step (h : RowA B w v zs) {i : Nat} {z z' : Raw} (hi : zs[i]? = some z) (hrow : Acc RRaw 7 73 (fun _=>False) B w' v (zs.set i z')) (hk : Kept (fun k=>v.ownBlock≠some k∧(ansV z).ownBlock≠some k) w w')
  (ha : Acc RAns 4 143 (fun _=>False) B w' (ansV z') z'.1.answers) (ho : (ansV z').ownBlock=(ansV z).ownBlock) : RowA B w' v (zs.set i z'):=by
 have hil:=(List.getElem?_eq_some_iff.1 hi).1;refine ⟨hrow,fun y hy=>?_,List.pairwise_iff_getElem.2 fun a b hal hbl hab=>?_⟩
 ·obtain ⟨j,hj⟩:=List.mem_iff_getElem?.1 hy;by_cases hji : j=i
  ·subst hji;rw [List.getElem?_set_self hil] at hj;injection hj with hj;rw [← hj]; exact ha
  ·rw [List.getElem?_set_ne (fun e=>hji e.symm)] at hj;have hay:=h.ans y (List.mem_of_getElem? hj);exact hay.keep RAns.ok hk (fun _ h=>h.elim) (fun k hk'=>⟨fun e=>h.row.apartV hay (by decide) k e hk',fun e=>h.sepAt hji hj hi k hk' e⟩)
 ·(have hal' : a < zs.length:=by simpa using hal);(have hbl' : b < zs.length:=by simpa using hbl);by_cases ha1 : a=i
  ·subst ha1;(have hb1 : b≠a:=by omega);rw [List.getElem_set_self,List.getElem_set_ne (fun e=>hb1 e.symm)];intro k e1 e2;rw [ho] at e1;exact h.sepAt (fun e=>hb1 e.symm) hi (List.getElem?_eq_getElem hbl') k e1 e2
  ·by_cases hb1 : b=i
   ·subst hb1;rw [List.getElem_set_self,List.getElem_set_ne (fun e=>ha1 e.symm)];intro k e1 e2;rw [ho] at e2;exact h.sepAt ha1 (List.getElem?_eq_getElem hal') hi k e1 e2
   ·rw [List.getElem_set_ne (fun e=>ha1 e.symm),List.getElem_set_ne (fun e=>hb1 e.symm)];exact h.sepAt (by omega) (List.getElem?_eq_getElem hal') (List.getElem?_eq_getElem hbl')
end
theorem Sl.revs {F : Nat→Prop} {w : World} {a : Option Addr} {len : Nat} {zs : List Raw} (h : Sl RRaw 7 F w a len zs) (ha : ∀ z ∈ zs,Sl RAns 4 F w z.2.1 z.1.answers.length z.1.answers) : Sl RRev 7 F w a len (zs.map (·.1)):=by
 refine ⟨by rw [List.length_map]; exact h.1,fun hl=>?_⟩;obtain ⟨b,off,h1,h2,h3⟩:=h.2 hl;refine ⟨b,off,h1,h2,fun i hi=>?_⟩;rw [List.length_map] at hi;obtain ⟨vs,h4,h5,h6⟩:=h3 i hi;refine ⟨vs,h4,h5,?_⟩;rw [List.getElem_map];exact ⟨zs[i].2.1,zs[i].2.2,h6.1,h6.2,ha _ (List.getElem_mem hi)⟩
theorem RowA.sl {B : Nat} {w : World} {v : Value} {zs : List Raw} (h : RowA B w v zs) : ∃ a c,v=.slice a zs.length c∧Sl RRev 7 (fun _=>True) w a zs.length (zs.map (·.1)):=by
 obtain ⟨a,c,hv,hs⟩:=h.row.sl RRaw.ok (by decide) (G:=fun _=>True) (fun _ h=>h.elim) (fun _ _=>trivial);refine ⟨a,c,hv,hs.revs fun z hz=>?_⟩;obtain ⟨a',c',hv',hs'⟩:=(h.ans z hz).sl RAns.ok (by decide) (G:=fun _=>True) (fun _ h=>h.elim) (fun _ _=>trivial);injection hv' with e1 e2 e3;rw [e1]; exact hs'
theorem wp_region_sts {P : Program} {ops : Array Oper} {Q : Exit→Act→World→Prop} {id : Nat} {a0 : Act} {w0 : World} (z : Nat) (hm : P.follows .mixedOrders=true) (hform : (formOk ops z a0.tmps.size && plainOk ops z)=true)
  (G : (Nat→Bool)→World→Prop) (D : Nat→Value→World→Prop) (E : Nat→World→Prop) (M : Nat→World→World→Prop)
  (hM : ∀ i j v w w',i≠j→M j w w'→D i v w→D i v w') (hE : ∀ i j w w',i≠j→M j w w'→E i w→E i w') (hG : G (fun _=>false) w0.drew)
  (hstep : ∀ i o,ops[i]? = some o→i < z→∀ L a w,G L w→L i=false→a.defers=a0.defers→a.tmps.size=a0.tmps.size→(∀ t,t ∉ dsts ops z→a.tmps[t]? = a0.tmps[t]?) →
   (∀ j ∈ depsOf ops i,∀ t,dstAt ops j=some t→D j (a.tmps.getD t undef) w)→o.wp P a w (fun a' w'=>∃ v,a'=a.put o.dst v∧G (fun j=>if j=i then true else L j) w'∧M i w w'∧(o.dst=none→E i w')∧(o.dst≠none→D i v w')) Q)
  (hlast : ∀ L w (f : Tmp→Value),G L w→(∀ i t,i < z→dstAt ops i=some t→D i (f t) w)→(∀ i,i < z→dstAt ops i=none→E i w)→wpList P ops Q (ops.toList.drop z) (puts a0 ((dsts ops z).map fun t=>(t,f t))) w) :
  (Code.region id ops true).wp P Q a0 w0:=by
 have hf:=FormIs.of (Bool.and_eq_true_iff.1 hform).1;have hpl:=(Bool.and_eq_true_iff.1 hform).2;refine wp_region_full z hm (Bool.and_eq_true_iff.1 hform).1 (fun _ L _ w=>G L w) (fun i a w=>(∀ t,dstAt ops i=some t→D i (a.tmps.getD t undef) w)∧(dstAt ops i=none→E i w)) (fun j _ _ w w'=>M j w w') (fun i j _ _ a w v w' hi hj hij _ _ hmm hd=>⟨fun t ht=>?_,fun hn=>?_⟩) hG (fun i o ho hi k L a w hk hg hL h1 h2 h3 h4=>?_) (fun w a L hg _ hd=>?_)
 ·(have et : dstAt ops j≠some t:=fun e=>(hf.dst i t hi ht).2 j hj (Ne.symm hij) e);rw [put_at v et];exact hM _ _ _ _ _ hij hmm (hd.1 t ht)
 ·exact hE _ _ _ _ hij hmm (hd.2 hn)
 ·rw [if_pos (by simp [Region.wanted,plainOk.guard hpl hi ho])];(have hdi : dstAt ops i=o.dst:=by simp [dstAt,ho]);refine Oper.wp_mono ?_ (hstep i o ho hi L a w hg hL h1 h2 h3 (fun j hj=>(h4 j hj).1));rintro a' w' ⟨v,rfl,hg',hm',he',hd'⟩;refine ⟨v,rfl,hg',hm',fun t ht=>?_,fun hn=>he' (by rw [← hdi]; exact hn)⟩;rw [hdi] at ht;have hta':=(hf.dst i t hi (by rw [hdi,ht])).1;(have e : ((a.put o.dst v).tmps.getD t undef)=v:=by rw [ht]; simp [Act.put,Array.getD_eq_getD_getElem?,h2,hta']);rw [e];exact hd' (by rw [ht]; exact Option.some_ne_none _)
 ·exact hlast L w (fun t=>a.tmps.getD t undef) hg (fun i t hi ht=>(hd i hi).1 t ht) (fun i hi hn=>(hd i hi).2 hn)
open Go.RowKit Go.Sort

abbrev RawB : Type:={z : Raw // 0≤z.1.no∧z.1.no≤3000∧0≤z.1.tm∧z.1.tm≤5761440}
instance : Inhabited RawB:=⟨⟨(⟨0,0,⟨#[]⟩,⟨#[]⟩,⟨#[]⟩,false,[]⟩,none,0),by decide⟩⟩
def encB (y : RawB) : List Value:=encRaw y.1
def RRawB : Rel RawB:=fun F w vs y=>RRaw F w vs y.1
theorem flatRawB : Flat RRawB encB (fun y=>RevSmall y.1.1) 7:=⟨fun _ _ _ _=>Iff.rfl,fun _=>rfl,by decide,fun x u hu=>flatRaw.one x.1 u hu⟩
theorem RRawB.ok : RRawB.Ok:=Flat.ok flatRawB
theorem Acc.toB {T : TypeId} {F : Nat→Prop} {B : Nat} {w : World} {v : Value} {zs : List RawB} (h : Acc RRaw 7 T F B w v (zs.map (·.1))) : Acc RRawB 7 T F B w v zs:=by
 obtain ⟨cells,h1,h2⟩:=h;refine ⟨cells,by rwa [List.length_map] at h1,fun i hi=>?_⟩;have:=h2 i (by rw [List.length_map]; exact hi);rw [List.getElem_map] at this;exact this
theorem Acc.ofB {T : TypeId} {F : Nat→Prop} {B : Nat} {w : World} {v : Value} {zs : List RawB} (h : Acc RRawB 7 T F B w v zs) : Acc RRaw 7 T F B w v (zs.map (·.1)):=by
 obtain ⟨cells,h1,h2⟩:=h;refine ⟨cells,by rwa [List.length_map],fun i hi=>?_⟩;rw [List.length_map] at hi;rw [List.getElem_map];exact h2 i hi
theorem raws_bound {zs : List Raw} (h : ∀ z ∈ zs,0≤z.1.no∧z.1.no≤3000∧0≤z.1.tm∧z.1.tm≤5761440) : ∃ bs : List RawB,bs.map (·.1)=zs:=by
 induction zs with
 | nil=>exact ⟨[],rfl⟩
 | cons z zs ih =>
  obtain ⟨bs,hb⟩:=ih (fun y hy=>h y (List.mem_cons_of_mem _ hy));exact ⟨⟨z,h z (by simp)⟩ :: bs,by rw [List.map_cons,hb]⟩
def CmpR (P : Program) (g : FuncId) (cf : RawB→RawB→Int) : Prop :=
 ∀ (x y : RawB) (wx : World),Calls P g #[.agg (encB x).toArray,.agg (encB y).toArray] wx fun e w'=>e=.returned (.int .i64 (cf x y))∧AllD wx w'
theorem CmpR.lays {g : FuncId} {cf : RawB→RawB→Int} (h : CmpR Tryz.prog g cf) (g0 size : Nat) (w : World) : CmpLays Tryz.prog g #[] encB 7 cf g0 0 size w:=fun m os dk _ x y=>by
 refine (h x y _).mono ?_;rintro e w' ⟨he,hd⟩;obtain ⟨q,os',rfl⟩:=hd.grow;exact ⟨he,q,os',rfl⟩
theorem sortRev_any {T : TypeId} {F : Nat→Prop} {B : Nat} (cf : RawB→RawB→Int) (hO : IsCmp cf) (g : FuncId) (eg : ∀ args w,(callFunc g args).run Tryz.prog w=.ok (.enter g args) w) (hcmp : CmpR Tryz.prog g cf) (v : Value) (xs : List RawB) (w : World) (h : Acc RRawB 7 T F B w v xs) (hl : xs.length≤1000000) :
  Calls Tryz.prog 84 #[v,.func (.func g) #[] #[]] w fun e w'=>e=.returned (.tuple #[])∧∃ qs : List RawB,qs.Perm xs∧qs.Pairwise (fun x y=>cf x y≤0)∧Acc RRawB 7 T F B w' v qs∧w.grownBy w' v.ownBlock:=by
 rcases h.sortable flatRawB with ⟨rfl,rfl⟩ | ⟨g0,cap,rfl,hb,hlt,hH,hS,hafter⟩
 ·refine (Tryz.slices_SortFunc_rev_none none 0 _ w).mono ?_;rintro e w' ⟨rfl,rfl⟩;exact ⟨rfl,[],List.Perm.refl _,List.Pairwise.nil,h,⟨rfl,rfl,rfl,Nat.le_refl _,fun _ _ _=>rfl⟩⟩
 ·have hC:=Tryz.slices_SortFunc_rev encB (Flat.len flatRawB) (Flat.one flatRawB) cf hO.swo g #[] g0 0 cap xs.toArray w eg (by simpa using hcmp.lays g0 xs.length w) hH hlt (by simp; omega);simp only [List.size_toArray] at hC;refine hC.mono ?_;rintro e w' ⟨rfl,d',n,os,hp,hs,rfl⟩;obtain ⟨hd,hperm⟩:=perm_list hp;obtain ⟨ha,hg⟩:=hafter d' n os hd (fun x hx=>hS x (hperm.mem_iff.1 hx));exact ⟨rfl,d'.toList,hperm,sorted_list hO hs hd,ha,hg⟩
open Go.RowKit Go.Sort

set_option maxRecDepth 100000 in
set_option maxHeartbeats 12800000 in
theorem view1_any (x : Rev) (xa : Option Addr) (xc : Nat) (y : Rev) (ya : Option Addr) (yc : Nat) (w : World) :
  Calls Tryz.prog 85 #[.agg (revC x xa xc),.agg (revC y ya yc)] w fun e w'=>e=.returned (.int .i64 (cfV x y))∧AllD w w':=by
 have hk1 : AllD w ((w.alloc (.cells (revC x xa xc) 73)).alloc (.cells (revC y ya yc) 73)):=((AllD.refl w).then_alloc _).then_alloc _;have hbx:=(Kept.alloc (fun _=>True) (w.alloc (.cells (revC x xa xc) 73)) (.cells (revC y ya yc) 73)).heap (heap_at w (.cells (revC x xa xc) 73) _ rfl) trivial;have hby:=heap_at (w.alloc (.cells (revC x xa xc) 73)) (.cells (revC y ya yc) 73) _ rfl;obtain ⟨bx,hbx'⟩ : ∃ b,b=w.heap.size:=⟨_,rfl⟩;obtain ⟨by',hby'⟩ : ∃ b,b=(w.alloc (.cells (revC x xa xc) 73)).heap.size:=⟨_,rfl⟩;(have hyx : by'=bx+1:=by rw [hby',hbx']; simp);rw [← hbx'] at hbx;rw [← hby'] at hby
 have HCbx:=Lib.hid (fun (wx : World) (k : All ((w.alloc (.cells (revC x xa xc) 73)).alloc (.cells (revC y ya yc) 73)) wx)=>(⟨k.cell (cell_at (i:=0) hbx rfl) trivial,k.cell (cell_at (i:=1) hbx rfl) trivial⟩ : _∧_));have HCby':=Lib.hid (fun (wx : World) (k : All ((w.alloc (.cells (revC x xa xc) 73)).alloc (.cells (revC y ya yc) 73)) wx)=>(⟨k.cell (cell_at (i:=0) hby rfl) trivial,k.cell (cell_at (i:=1) hby rfl) trivial⟩ : _∧_));have HBX:=Lib.hid hbx';have HYX:=Lib.hid hyx;clear hbx hby hbx' hby' hyx;have HW:=Lib.hid (orL_cfV x y);(go_enter Tryz.func85,Tryz.ntmps85);(go_wp2_with fail);simp only [← HBX.out];simp only [← HYX.out];generalize (w.alloc (.cells (revC x xa xc) 73)).alloc (.cells (revC y ya yc) 73)=w1 at *;refine wp_region_inv 12 (by kernel_rfl) (by kernel_rfl) (by kernel_rfl) (fun _ wx=>AllD w1 wx)
  (DL [QIs (.pointer (some ⟨bx,1,none⟩)),QIs (.int .i64 x.tm),QIs (.pointer (some ⟨by',1,none⟩)),QIs (.int .i64 y.tm),QIs (.int .i64 (cmpZ x.tm y.tm)),QIs (.pointer (some ⟨bx,0,none⟩)),QIs (.int .i64 x.no),QIs (.pointer (some ⟨by',0,none⟩)),QIs (.int .i64 y.no),QIs (.int .i64 (cmpZ x.no y.no)),QRowN #[Value.int .i64 (cmpZ x.tm y.tm),Value.int .i64 (cmpZ x.no y.no)] 3 2,QIs (.int .i64 (cfV x y))]) AllD
  (DL.keep (by simp only [List.forall_mem_cons,List.not_mem_nil,false_implies,implies_true,and_true]; exact ⟨QIs.staysD _,QIs.staysD _,QIs.staysD _,QIs.staysD _,QIs.staysD _,QIs.staysD _,QIs.staysD _,QIs.staysD _,QIs.staysD _,QIs.staysD _,QRowN.staysD _ _ _,QIs.staysD _⟩)) ?_ ?_ ?_
 ·exact (AllD.refl _).then_drew
 ·intro i o t ho hd hi k' a' wx hk' hg hdf hts hoth hdeps;(have hz : i=0∨i=1∨i=2∨i=3∨i=4∨i=5∨i=6∨i=7∨i=8∨i=9∨i=10∨i=11:=by omega);rcases hz with rfl | rfl | rfl | rfl | rfl | rfl | rfl | rfl | rfl | rfl | rfl | rfl
  ·obtain rfl:=Option.some.inj ho;obtain rfl:=Option.some.inj hd;have e0 : a'.tmps.getD 2 undef=.pointer (some ⟨bx,0,none⟩):=tmp_of ((hoth 2 (by decide)).trans rfl);clear hoth hdeps hdf hts ho;refine wp_via (fun K' hK=>?_);have HK:=Lib.hid hK;clear hK;go_simp;exact HK.out _ _ ⟨_,rfl,hg,AllD.refl _,rfl⟩
  ·obtain rfl:=Option.some.inj ho;obtain rfl:=Option.some.inj hd;have e0 : a'.tmps.getD 5 undef=.pointer (some ⟨bx,1,none⟩):=hdeps 0 (by decide) 5 rfl;have c0:=(HCbx.out _ hg.1).2;clear hoth hdeps hdf hts ho;refine wp_via (fun K' hK=>?_);have HK:=Lib.hid hK;clear hK;go_simp;exact HK.out _ _ ⟨_,rfl,hg,AllD.refl _,rfl⟩
  ·obtain rfl:=Option.some.inj ho;obtain rfl:=Option.some.inj hd;have e0 : a'.tmps.getD 3 undef=.pointer (some ⟨by',0,none⟩):=tmp_of ((hoth 3 (by decide)).trans rfl);clear hoth hdeps hdf hts ho;refine wp_via (fun K' hK=>?_);have HK:=Lib.hid hK;clear hK;go_simp;exact HK.out _ _ ⟨_,rfl,hg,AllD.refl _,rfl⟩
  ·obtain rfl:=Option.some.inj ho;obtain rfl:=Option.some.inj hd;have e0 : a'.tmps.getD 7 undef=.pointer (some ⟨by',1,none⟩):=hdeps 2 (by decide) 7 rfl;have c0:=(HCby'.out _ hg.1).2;clear hoth hdeps hdf hts ho;refine wp_via (fun K' hK=>?_);have HK:=Lib.hid hK;clear hK;go_simp;exact HK.out _ _ ⟨_,rfl,hg,AllD.refl _,rfl⟩
  ·obtain rfl:=Option.some.inj ho;obtain rfl:=Option.some.inj hd;have e0 : a'.tmps.getD 6 undef=.int .i64 x.tm:=hdeps 1 (by decide) 6 rfl;have e1 : a'.tmps.getD 8 undef=.int .i64 y.tm:=hdeps 3 (by decide) 8 rfl;clear hoth hdeps hdf hts ho;refine wp_via (fun K' hK=>?_);have HK:=Lib.hid hK;clear hK;go_simp;refine (compareZ_any _ _ _).mono ?_;rintro e w4 ⟨rfl,hw4⟩;subst hw4;exact HK.out _ _ ⟨_,rfl,hg,AllD.refl _,rfl⟩
  ·obtain rfl:=Option.some.inj ho;obtain rfl:=Option.some.inj hd;have e0 : a'.tmps.getD 2 undef=.pointer (some ⟨bx,0,none⟩):=tmp_of ((hoth 2 (by decide)).trans rfl);clear hoth hdeps hdf hts ho;refine wp_via (fun K' hK=>?_);have HK:=Lib.hid hK;clear hK;go_simp;exact HK.out _ _ ⟨_,rfl,hg,AllD.refl _,rfl⟩
  ·obtain rfl:=Option.some.inj ho;obtain rfl:=Option.some.inj hd;have e0 : a'.tmps.getD 10 undef=.pointer (some ⟨bx,0,none⟩):=hdeps 5 (by decide) 10 rfl;have c0:=(HCbx.out _ hg.1).1;clear hoth hdeps hdf hts ho;refine wp_via (fun K' hK=>?_);have HK:=Lib.hid hK;clear hK;go_simp;exact HK.out _ _ ⟨_,rfl,hg,AllD.refl _,rfl⟩
  ·obtain rfl:=Option.some.inj ho;obtain rfl:=Option.some.inj hd;have e0 : a'.tmps.getD 3 undef=.pointer (some ⟨by',0,none⟩):=tmp_of ((hoth 3 (by decide)).trans rfl);clear hoth hdeps hdf hts ho;refine wp_via (fun K' hK=>?_);have HK:=Lib.hid hK;clear hK;go_simp;exact HK.out _ _ ⟨_,rfl,hg,AllD.refl _,rfl⟩
  ·obtain rfl:=Option.some.inj ho;obtain rfl:=Option.some.inj hd;have e0 : a'.tmps.getD 12 undef=.pointer (some ⟨by',0,none⟩):=hdeps 7 (by decide) 12 rfl;have c0:=(HCby'.out _ hg.1).1;clear hoth hdeps hdf hts ho;refine wp_via (fun K' hK=>?_);have HK:=Lib.hid hK;clear hK;go_simp;exact HK.out _ _ ⟨_,rfl,hg,AllD.refl _,rfl⟩
  ·obtain rfl:=Option.some.inj ho;obtain rfl:=Option.some.inj hd;have e0 : a'.tmps.getD 11 undef=.int .i64 x.no:=hdeps 6 (by decide) 11 rfl;have e1 : a'.tmps.getD 13 undef=.int .i64 y.no:=hdeps 8 (by decide) 13 rfl;clear hoth hdeps hdf hts ho;refine wp_via (fun K' hK=>?_);have HK:=Lib.hid hK;clear hK;go_simp;refine (compareZ_any _ _ _).mono ?_;rintro e w4 ⟨rfl,hw4⟩;subst hw4;exact HK.out _ _ ⟨_,rfl,hg,AllD.refl _,rfl⟩
  ·obtain rfl:=Option.some.inj ho;obtain rfl:=Option.some.inj hd;have e0 : a'.tmps.getD 9 undef=Value.int .i64 (cmpZ x.tm y.tm):=hdeps 4 (by decide) 9 rfl;(have e0' : a'.tmps[9]?.getD undef=Value.int .i64 (cmpZ x.tm y.tm):=by rw [← Array.getD_eq_getD_getElem?]; exact e0);have e1 : a'.tmps.getD 14 undef=Value.int .i64 (cmpZ x.no y.no):=hdeps 9 (by decide) 14 rfl;(have e1' : a'.tmps[14]?.getD undef=Value.int .i64 (cmpZ x.no y.no):=by rw [← Array.getD_eq_getD_getElem?]; exact e1);clear hoth hdeps hdf hts ho;refine wp_via (fun K' hK=>?_);have HK:=Lib.hid hK;clear hK;go_simp;exact HK.out _ _ ⟨_,rfl,hg.then_alloc _,(AllD.refl _).then_alloc _,⟨wx.heap.size,rfl,heap_at _ _ _ rfl⟩⟩
  ·obtain rfl:=Option.some.inj ho;obtain rfl:=Option.some.inj hd;obtain ⟨b9,e0,hb9⟩ : QRowN #[Value.int .i64 (cmpZ x.tm y.tm),Value.int .i64 (cmpZ x.no y.no)] 3 2 (a'.tmps.getD 15 undef) wx:=hdeps 10 (by decide) 15 rfl;have hsl : Sl RInt 1 (fun _=>True) wx (some ⟨b9,0,none⟩) 2 [cmpZ x.tm y.tm,cmpZ x.no y.no]:=Sl.lit_ints _ hb9 rfl trivial;have HO:=Lib.hid (orI_any _ 2 2 _ wx hsl (by decide));rw [HW.out] at HO;clear hb9 hsl;clear hoth hdeps hdf hts ho;refine wp_via (fun K' hK=>?_);have HK:=Lib.hid hK;clear hK;go_simp;refine HO.out.mono ?_;rintro e w4 ⟨rfl,hw4⟩;subst hw4;exact HK.out _ _ ⟨_,rfl,hg,AllD.refl _,rfl⟩
 ·intro wx f hg hd;have e9 : f 16=.int .i64 (cfV x y):=hd 11 16 (by decide) rfl;rw [show dsts _ 12=[5,6,7,8,9,10,11,12,13,14,15,16] from by kernel_rfl];simp only [List.map_cons,List.map_nil,puts,Act.put,e9,List.drop_succ_cons,List.drop_zero];generalize f 5=f5;generalize f 6=f6;generalize f 7=f7;generalize f 8=f8;generalize f 9=f9;generalize f 10=f10;generalize f 11=f11;generalize f 12=f12;generalize f 13=f13;generalize f 14=f14;generalize f 15=f15;simp only [List.setIfInBounds_toArray,List.set_cons_zero,List.set_cons_succ];have hkx:=hk1.trans hg;clear hd e9 f hg hk1;(go_wp2_with fail);go_ret;exact ⟨rfl,hkx⟩
set_option maxRecDepth 100000 in
set_option maxHeartbeats 12800000 in
theorem viewOf1_any (x : Rev) (xa : Option Addr) (xc : Nat) (y : Rev) (ya : Option Addr) (yc : Nat) (h1 : 0≤x.no∧x.no≤5761440) (h2 : 0≤y.no∧y.no≤5761440) (w : World) :
  Calls Tryz.prog 93 #[.agg (revC x xa xc),.agg (revC y ya yc)] w fun e w'=>e=.returned (.int .i64 (x.no - y.no))∧AllD w w':=by
 have hk1 : AllD w ((w.alloc (.cells (revC x xa xc) 73)).alloc (.cells (revC y ya yc) 73)):=((AllD.refl w).then_alloc _).then_alloc _;have hbx:=(Kept.alloc (fun _=>True) (w.alloc (.cells (revC x xa xc) 73)) (.cells (revC y ya yc) 73)).heap (heap_at w (.cells (revC x xa xc) 73) _ rfl) trivial;have hby:=heap_at (w.alloc (.cells (revC x xa xc) 73)) (.cells (revC y ya yc) 73) _ rfl;obtain ⟨bx,hbx'⟩ : ∃ b,b=w.heap.size:=⟨_,rfl⟩;obtain ⟨by',hby'⟩ : ∃ b,b=(w.alloc (.cells (revC x xa xc) 73)).heap.size:=⟨_,rfl⟩;(have hyx : by'=bx+1:=by rw [hby',hbx']; simp);rw [← hbx'] at hbx;rw [← hby'] at hby
 have c0:=cell_at (i:=0) hbx rfl;have c1:=cell_at (i:=0) hby rfl;have HBX:=Lib.hid hbx';have HYX:=Lib.hid hyx;clear hbx hby hbx' hby' hyx;have hwr : IntKind.i64.wrap (x.no - y.no)=x.no - y.no:=IntWalk.i64_in _ (by omega);(go_enter Tryz.func93,Tryz.ntmps93);(go_upto_region 1 with fail);simp only [← HBX.out];simp only [← HYX.out];generalize (w.alloc (.cells (revC x xa xc) 73)).alloc (.cells (revC y ya yc) 73)=w1 at *;(go_wp2_with fail);go_ret;exact ⟨rfl,hk1⟩
set_option maxRecDepth 100000 in
set_option maxHeartbeats 12800000 in
theorem viewOf2_any (x : Rev) (xa : Option Addr) (xc : Nat) (y : Rev) (ya : Option Addr) (yc : Nat) (h1 : 0≤x.tm∧x.tm≤5761440) (h2 : 0≤y.tm∧y.tm≤5761440) (w : World) :
  Calls Tryz.prog 95 #[.agg (revC x xa xc),.agg (revC y ya yc)] w fun e w'=>e=.returned (.int .i64 (x.tm - y.tm))∧AllD w w':=by
 have hk1 : AllD w ((w.alloc (.cells (revC x xa xc) 73)).alloc (.cells (revC y ya yc) 73)):=((AllD.refl w).then_alloc _).then_alloc _;have hbx:=(Kept.alloc (fun _=>True) (w.alloc (.cells (revC x xa xc) 73)) (.cells (revC y ya yc) 73)).heap (heap_at w (.cells (revC x xa xc) 73) _ rfl) trivial;have hby:=heap_at (w.alloc (.cells (revC x xa xc) 73)) (.cells (revC y ya yc) 73) _ rfl;obtain ⟨bx,hbx'⟩ : ∃ b,b=w.heap.size:=⟨_,rfl⟩;obtain ⟨by',hby'⟩ : ∃ b,b=(w.alloc (.cells (revC x xa xc) 73)).heap.size:=⟨_,rfl⟩;(have hyx : by'=bx+1:=by rw [hby',hbx']; simp);rw [← hbx'] at hbx;rw [← hby'] at hby
 have c0:=cell_at (i:=1) hbx rfl;have c1:=cell_at (i:=1) hby rfl;have HBX:=Lib.hid hbx';have HYX:=Lib.hid hyx;clear hbx hby hbx' hby' hyx;have hwr : IntKind.i64.wrap (x.tm - y.tm)=x.tm - y.tm:=IntWalk.i64_in _ (by omega);(go_enter Tryz.func95,Tryz.ntmps95);(go_upto_region 1 with fail);simp only [← HBX.out];simp only [← HYX.out];generalize (w.alloc (.cells (revC x xa xc) 73)).alloc (.cells (revC y ya yc) 73)=w1 at *;(go_wp2_with fail);go_ret;exact ⟨rfl,hk1⟩
theorem cmpView1 : CmpR Tryz.prog 85 (fun x y=>cfV x.1.1 y.1.1):=fun x y wx=>view1_any x.1.1 x.1.2.1 x.1.2.2 y.1.1 y.1.2.1 y.1.2.2 wx
theorem cmpViewOf1 : CmpR Tryz.prog 93 (fun x y=>x.1.1.no - y.1.1.no):=fun x y wx=>viewOf1_any x.1.1 x.1.2.1 x.1.2.2 y.1.1 y.1.2.1 y.1.2.2 (by have:=x.2; omega) (by have:=y.2; omega) wx
theorem cmpViewOf2 : CmpR Tryz.prog 95 (fun x y=>x.1.1.tm - y.1.1.tm):=fun x y wx=>viewOf2_any x.1.1 x.1.2.1 x.1.2.2 y.1.1 y.1.2.1 y.1.2.2 (by have:=x.2; omega) (by have:=y.2; omega) wx

open Go.RowKit Go.Sort

theorem insRev_none (fv : Value) (w : World) : Calls Tryz.prog 235 #[.slice none 0 0,.int .i64 0,.int .i64 0,fv] w fun e w'=>e=.returned (.tuple #[])∧w=w':=by
 (go_enter Tryz.func235,Tryz.ntmps235);(go_wp2_with fail);refine wp_loop_rounds 1 ?_;rw [rounds_succ];go_wp2_with fail
 go_end0
 exact ⟨rfl,rfl⟩
def InsPost (cf : RawB→RawB→Int) (T : TypeId) (F : Nat→Prop) (B : Nat) (v : Value) (xs : List RawB) (w : World) (e : Ending) (w' : World) : Prop :=
 e=.returned (.tuple #[])∧Acc RRawB 7 T F B w' v (insertionSort (ltOf cf) xs.toArray 0 xs.length).toList∧w.grownBy w' v.ownBlock
theorem insRev_any {T : TypeId} {F : Nat→Prop} {B : Nat} (cf : RawB→RawB→Int) (hO : IsCmp cf) (g : FuncId) (eg : ∀ args w,(callFunc g args).run Tryz.prog w=.ok (.enter g args) w) (hcmp : CmpR Tryz.prog g cf) (v : Value) (xs : List RawB) (w : World) (h : Acc RRawB 7 T F B w v xs) (hl : xs.length≤1000000) :
  Calls Tryz.prog 235 #[v,.int .i64 0,.int .i64 xs.length,.func (.func g) #[] #[]] w (InsPost cf T F B v xs w):=by
 rcases h.sortable flatRawB with ⟨rfl,rfl⟩ | ⟨g0,cap,rfl,hb,hlt,hH,hS,hafter⟩
 ·refine (insRev_none _ w).mono ?_;rintro e w' ⟨rfl,rfl⟩;(have e0 : (insertionSort (ltOf cf) ([] : List RawB).toArray 0 ([] : List RawB).length).toList=[]:=by unfold insertionSort; rw [insOuter,if_neg (by simp)]);exact ⟨rfl,by rw [e0]; exact h,⟨rfl,rfl,rfl,Nat.le_refl _,fun _ _ _=>rfl⟩⟩
 ·have hC:=Tryz.slices_insertionSortCmpFunc_rev encB (Flat.len flatRawB) (Flat.one flatRawB) cf g #[] g0 0 cap 0 xs.length xs.toArray w eg (by simpa using hcmp.lays g0 xs.length w) hH hlt (Nat.zero_le _) (by simp) (by simp; omega);simp only [List.size_toArray] at hC;refine hC.mono ?_;rintro e w' ⟨rfl,n,os,rfl⟩;obtain ⟨hd,hperm⟩:=perm_list (insertionSort_holds hO.swo xs.toArray 0 xs.length (Nat.zero_le _) (by simp)).1;obtain ⟨ha,hg⟩:=hafter (insertionSort (ltOf cf) xs.toArray 0 xs.length) n os hd (fun x hx=>hS x (hperm.mem_iff.1 hx));exact ⟨rfl,ha,hg⟩
theorem stableRev_any {T : TypeId} {F : Nat→Prop} {B : Nat} (cf : RawB→RawB→Int) (hO : IsCmp cf) (g : FuncId) (eg : ∀ args w,(callFunc g args).run Tryz.prog w=.ok (.enter g args) w) (hcmp : CmpR Tryz.prog g cf) (v : Value) (xs : List RawB) (w : World) (h : Acc RRawB 7 T F B w v xs) (hl : xs.length < 20) :
  Calls Tryz.prog 164 #[v,.int .i64 xs.length,.func (.func g) #[] #[]] w (InsPost cf T F B v xs w):=by
 have HI:=Lib.hid (insRev_any cf hO g eg hcmp v xs w h (by omega));clear h hcmp eg;obtain ⟨n,hn⟩ : ∃ n,n=xs.length:=⟨_,rfl⟩;have HP:=Lib.hid (show ∀ e w',InsPost cf T F B v xs w e w'→e=.returned (.tuple #[])∧Hid (InsPost cf T F B v xs w e w') from fun e w' h=>⟨h.1,h⟩);rw [← hn] at HI hl ⊢;clear hn;(have d1 : decide ((20 : Int)≤(n : Int))=false:=by simp; omega);(have d2 : decide ((20 : Int) < (n : Int))=false:=by simp; omega);(go_enter Tryz.func164,Tryz.ntmps164);(go_wp2_with fail);refine wp_loop_rounds 1 ?_;rw [rounds_succ];(go_wp2_with fail);refine HI.out.mono ?_;intro e w1 hp;obtain ⟨rfl,HF⟩:=HP.out _ _ hp;clear hp;(go_wp2_with fail);refine wp_loop_rounds 1 ?_;rw [rounds_succ];go_wp2_with fail
 go_end0
 exact HF.out
theorem sortStable_any {T : TypeId} {F : Nat→Prop} {B : Nat} (cf : RawB→RawB→Int) (hO : IsCmp cf) (g : FuncId) (eg : ∀ args w,(callFunc g args).run Tryz.prog w=.ok (.enter g args) w) (hcmp : CmpR Tryz.prog g cf) (v : Value) (xs : List RawB) (w : World) (h : Acc RRawB 7 T F B w v xs) (hl : xs.length < 20) :
  Calls Tryz.prog 94 #[v,.func (.func g) #[] #[]] w (InsPost cf T F B v xs w):=by
 have HI:=Lib.hid (stableRev_any cf hO g eg hcmp v xs w h hl);obtain ⟨a,c,rfl,-⟩:=h.form;clear h hcmp eg;obtain ⟨n,hn⟩ : ∃ n,n=xs.length:=⟨_,rfl⟩;have HP:=Lib.hid (show ∀ e w',InsPost cf T F B (.slice a xs.length c) xs w e w'→e=.returned (.tuple #[])∧Hid (InsPost cf T F B (.slice a xs.length c) xs w e w') from fun e w' h=>⟨h.1,h⟩);rw [← hn] at HI hl;have HN:=Lib.hid hn;rw [← HN.out];rw [← HN.out] at HP;clear hn;(go_enter Tryz.func94,Tryz.ntmps94);(go_wp2_with fail);refine HI.out.mono ?_;intro e w1 hp;obtain ⟨rfl,HF⟩:=HP.out _ _ hp;clear hp;go_wp2_with fail
 go_end0
 exact HF.out
end Go.Proofs.YtjbaijgdkkccbaaGreatDoor
