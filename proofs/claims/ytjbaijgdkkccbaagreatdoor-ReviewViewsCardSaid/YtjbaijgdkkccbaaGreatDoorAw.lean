/- CheckPapers. -/
import Derived.Test.YtjbaijgdkkccbaaGreatDoorBr
import Derived.Test.YtjbaijgdkkccbaaGreatDoorAf
import Derived.Deep.CutBlock
import Derived.Deep.DeepCutAuto
import Derived.Test.YtjbaijgdkkccbaaGreatDoorAo
import Derived.Test.YtjbaijgdkkccbaaGreatDoorKb
import Derived.Test.YtjbaijgdkkccbaaGreatDoorKc
import Derived.Test.YtjbaijgdkkccbaaGreatDoorBg
namespace Go.Proofs.YtjbaijgdkkccbaaGreatDoor
open Go.RowKit

set_option maxRecDepth 100000 in
set_option maxHeartbeats 12800000 in
theorem checkPapers_any (a : Option Addr) (len cap : Nat) (xs : List Pap) (w : World) (hs : Sl RPap 5 (fun _=>True) w a len xs) (hl : len≤1000000) (hg : Glob w) :
  Calls Tryz.prog 195 #[.slice a len cap] w fun e w'=>e = .returned (.int .i64 (papersF xs))∧All w w':=by
 have Hlen:=Lib.hid hs.len;have HG:=Lib.hid (fun (wx : World) (k : All w wx)=>hg.keep k);clear hg;by_cases hbig : 400 < len
 ·have hfin:=Lib.hid (papersF_large (xs:=xs) (by have:=Hlen.out; omega));(have hd : decide ((400 : Int) < (len : Int)) = true:=by simp; omega);clear hs;(go_enter Tryz.func195,Tryz.ntmps195);(go_wp2_with fail);go_ret;exact ⟨ret_int' hfin.out.symm,Kept.refl _ _⟩
 have hfin:=Lib.hid (papersF_some (xs:=xs) (by have:=Hlen.out; omega));(have hd : decide ((400 : Int) < (len : Int)) = false:=by simp; omega);(go_enter Tryz.func195,Tryz.ntmps195);(go_wp2_with fail);go_loopw [12] (fun i wr=>∃ k : Nat,k≤len∧i = .int .i64 k∧PapAt xs k∧All w wr) (fun i _=>len - (intOf i).toNat)
 case atStart=>exact ⟨0,Nat.zero_le _,rfl,PapAt.zero _,Kept.refl _ _⟩
 case round =>
  obtain ⟨k,hk,rfl,hat,hwr⟩:=hrel;obtain ⟨wo,rfl⟩ : ∃ wo : World,wo = wr:=⟨_,rfl⟩;have HA:=Lib.hid hat
  clear hat
  by_cases hlt : k < len
  ·obtain ⟨b,off,⟨pid,trk,ttl,aus,tps⟩,aa,ac,ta,tc,ha,-,c0,c1,c2,c3,c4,hac,-,⟨hz1,hz2,hz3,hz4,hz5⟩,hsa,hst,hx,-⟩:=(hs.keep RPap.ok hwr).atPap hlt;subst ha;dsimp only at *;have Hx:=Lib.hid hx;obtain ⟨la,hla⟩ : ∃ m,m = aus.length:=⟨_,rfl⟩;obtain ⟨lt,hlt2⟩ : ∃ m,m = tps.length:=⟨_,rfl⟩;have HLA:=Lib.hid hla;have HLT:=Lib.hid hlt2;rw [← hla] at hsa hac hz4 c3;rw [← hlt2] at hst hz5 c4;have hko : All wo (wo.alloc (.cells #[.string pid,.string trk,.string ttl,.slice aa la ac,.slice ta lt tc] 128)):=Kept.alloc _ _ _;have hwa:=hwr.then_alloc (.cells #[.string pid,.string trk,.string ttl,.slice aa la ac,.slice ta lt tc] 128);have hblk:=heap_at wo (.cells #[.string pid,.string trk,.string ttl,.slice aa la ac,.slice ta lt tc] 128) _ rfl;have e0:=cell_at (i:=0) hblk rfl;have e1:=cell_at (i:=1) hblk rfl;have e2:=cell_at (i:=2) hblk rfl;have e3:=cell_at (i:=3) hblk rfl;have e4:=cell_at (i:=4) hblk rfl;have HSA':=Lib.hid (fun (wx : World) (k : All wo wx)=>hsa.keep RStr.ok k);have HST':=Lib.hid (fun (wx : World) (k : All wo wx)=>hst.keep RStr.ok k);clear hx hblk hsa hst hla hlt2
   go_upto_block 2 with fail
   go_cut [] (fun wx=>papF (lastId (xs.take k)) ⟨pid,trk,ttl,aus,tps⟩ = (if orderG [] aus≠0 then orderG [] aus else if 100 < tps.length then 2 else riseF none tps)∧wx.cell? ⟨wo.heap.size,3,none⟩ = some (.slice aa la ac)∧wx.cell? ⟨wo.heap.size,4,none⟩ = some (.slice ta lt tc)∧All wo wx)
   case first =>
    cases h1 : isKeyB pid with
    | false =>
     have hbad:=Lib.hid (HA.out.bad Hx.out (show papF (lastId (xs.take k)) ⟨pid,trk,ttl,aus,tps⟩ = 5 from papF_name (Or.inl h1)) (by decide));(go_wp2_with fail);refine (isKey_any pid _ (by omega)).mono ?_;rintro e w2 ⟨rfl,hh⟩;subst hh;rw [h1];(go_wp2_with fail);go_ret;exact ⟨ret_int' (by rw [hfin.out]; exact hbad.out.symm),hwa⟩
    | true =>
     cases h2 : isKeyB trk with
     | false =>
      have hbad:=Lib.hid (HA.out.bad Hx.out (show papF (lastId (xs.take k)) ⟨pid,trk,ttl,aus,tps⟩ = 5 from papF_name (Or.inr h2)) (by decide));(go_wp2_with fail);refine (isKey_any pid _ (by omega)).mono ?_;rintro e w2 ⟨rfl,hh⟩;subst hh;rw [h1];(go_wp2_with fail);refine (isKey_any trk _ (by omega)).mono ?_;rintro e w2 ⟨rfl,hh⟩;subst hh;rw [h2];(go_wp2_with fail);go_ret;exact ⟨ret_int' (by rw [hfin.out]; exact hbad.out.symm),hwa⟩
     | true =>
      have HH1:=Lib.hid h1;have HH2:=Lib.hid h2;rcases Nat.eq_zero_or_pos k with hk0 | hk0
      ·subst hk0;(have d0 : wo.cell? ⟨b,off,none⟩ = some (.string pid):=by simpa using c0);have HB:=Lib.hid (show behindB (lastId (xs.take 0)) pid = false by rw [lastId_zero]; rfl);(have hgd : decide ((0 : Int) < ((0 : Nat) : Int)) = false:=by simp);by_cases h5 : ttl.size = 0
       ·(have hte : (ttl.toList == []) = true:=by rw [toList_nil h5]; rfl);have hbad:=Lib.hid (HA.out.bad Hx.out (show papF (lastId (xs.take 0)) ⟨pid,trk,ttl,aus,tps⟩ = 3 from papF_form HH1.out HH2.out HB.out (Or.inl (by simp [lineB,h5]))) (by decide));clear h5;(go_wp2_with fail);refine (isKey_any pid _ (by omega)).mono ?_;rintro e w2 ⟨rfl,hh⟩;subst hh;rw [h1];(go_wp2_with fail);refine (isKey_any trk _ (by omega)).mono ?_;rintro e w2 ⟨rfl,hh⟩;subst hh;rw [h2];go_wp2_with fail
        go_quiet (fail)
        rename_i nq
        have hkq : All (wo.alloc (.cells #[.string pid,.string trk,.string ttl,.slice aa la ac,.slice ta lt tc] 128)) ((wo.alloc (.cells #[.string pid,.string trk,.string ttl,.slice aa la ac,.slice ta lt tc] 128)).drewN nq):=Kept.drewN _ _ _;have hwq:=hwa.trans hkq;replace e0:=hkq.cell e0 trivial;replace e1:=hkq.cell e1 trivial;replace e2:=hkq.cell e2 trivial;replace e3:=hkq.cell e3 trivial;replace e4:=hkq.cell e4 trivial;(go_wp2_with fail);go_ret;exact ⟨ret_int' (by rw [hfin.out]; exact hbad.out.symm),hwq⟩
       ·have hte : (ttl.toList == []) = false:=by rw [beq_eq_false_iff_ne]; exact toList_ne h5
        cases h4 : plainB ttl with
        | false =>
         have hbad:=Lib.hid (HA.out.bad Hx.out (show papF (lastId (xs.take 0)) ⟨pid,trk,ttl,aus,tps⟩ = 3 from papF_form HH1.out HH2.out HB.out (Or.inl (by simp [lineB,h4]))) (by decide));clear h5;(go_wp2_with fail);refine (isKey_any pid _ (by omega)).mono ?_;rintro e w2 ⟨rfl,hh⟩;subst hh;rw [h1];(go_wp2_with fail);refine (isKey_any trk _ (by omega)).mono ?_;rintro e w2 ⟨rfl,hh⟩;subst hh;rw [h2];go_wp2_with fail
         go_quiet (fail)
         rename_i nq
         have hkq : All (wo.alloc (.cells #[.string pid,.string trk,.string ttl,.slice aa la ac,.slice ta lt tc] 128)) ((wo.alloc (.cells #[.string pid,.string trk,.string ttl,.slice aa la ac,.slice ta lt tc] 128)).drewN nq):=Kept.drewN _ _ _;have hwq:=hwa.trans hkq;replace e0:=hkq.cell e0 trivial;replace e1:=hkq.cell e1 trivial;replace e2:=hkq.cell e2 trivial;replace e3:=hkq.cell e3 trivial;replace e4:=hkq.cell e4 trivial;(go_wp2_with fail);refine (isPlain_any ttl _ hz3 (HG.out _ hwq)).mono ?_;rintro e w4 ⟨rfl,hw4⟩;rw [h4];have m0:=hw4.cell e0 trivial;have m1:=hw4.cell e1 trivial;have m2:=hw4.cell e2 trivial;have m3:=hw4.cell e3 trivial;have m4:=hw4.cell e4 trivial;have hwc:=hwq.trans hw4;(go_wp2_with fail);go_ret;exact ⟨ret_int' (by rw [hfin.out]; exact hbad.out.symm),hwc⟩
        | true =>
         by_cases h6 : 200 < ttl.size
         ·(have h6' : decide ((200 : Int) < (ttl.size : Int)) = true:=by simp; omega);have hbad:=Lib.hid (HA.out.bad Hx.out (show papF (lastId (xs.take 0)) ⟨pid,trk,ttl,aus,tps⟩ = 3 from papF_form HH1.out HH2.out HB.out (Or.inl (by simp [lineB]; intros; omega))) (by decide));clear h5 h6;(go_wp2_with fail);refine (isKey_any pid _ (by omega)).mono ?_;rintro e w2 ⟨rfl,hh⟩;subst hh;rw [h1];(go_wp2_with fail);refine (isKey_any trk _ (by omega)).mono ?_;rintro e w2 ⟨rfl,hh⟩;subst hh;rw [h2];go_wp2_with fail
          go_quiet (fail)
          rename_i nq
          have hkq : All (wo.alloc (.cells #[.string pid,.string trk,.string ttl,.slice aa la ac,.slice ta lt tc] 128)) ((wo.alloc (.cells #[.string pid,.string trk,.string ttl,.slice aa la ac,.slice ta lt tc] 128)).drewN nq):=Kept.drewN _ _ _;have hwq:=hwa.trans hkq;replace e0:=hkq.cell e0 trivial;replace e1:=hkq.cell e1 trivial;replace e2:=hkq.cell e2 trivial;replace e3:=hkq.cell e3 trivial;replace e4:=hkq.cell e4 trivial;(go_wp2_with fail);refine (isPlain_any ttl _ hz3 (HG.out _ hwq)).mono ?_;rintro e w4 ⟨rfl,hw4⟩;rw [h4];have m0:=hw4.cell e0 trivial;have m1:=hw4.cell e1 trivial;have m2:=hw4.cell e2 trivial;have m3:=hw4.cell e3 trivial;have m4:=hw4.cell e4 trivial;have hwc:=hwq.trans hw4;(go_wp2_with fail);go_ret;exact ⟨ret_int' (by rw [hfin.out]; exact hbad.out.symm),hwc⟩
         ·(have h6' : decide ((200 : Int) < (ttl.size : Int)) = false:=by simp; omega);have HL:=Lib.hid (show lineB ttl 200 = true by simp [lineB,h4,h5]; omega);by_cases h7 : la = 0
          ·(have h7' : ((la : Int) == 0) = true:=by simp [h7]);have hbad:=Lib.hid (HA.out.bad Hx.out (show papF (lastId (xs.take 0)) ⟨pid,trk,ttl,aus,tps⟩ = 3 from papF_form HH1.out HH2.out HB.out (Or.inr (by have:=HLA.out; show aus.length = 0; omega))) (by decide));clear h5 h6 h7;(go_wp2_with fail);refine (isKey_any pid _ (by omega)).mono ?_;rintro e w2 ⟨rfl,hh⟩;subst hh;rw [h1];(go_wp2_with fail);refine (isKey_any trk _ (by omega)).mono ?_;rintro e w2 ⟨rfl,hh⟩;subst hh;rw [h2];go_wp2_with fail
           go_quiet (fail)
           rename_i nq
           have hkq : All (wo.alloc (.cells #[.string pid,.string trk,.string ttl,.slice aa la ac,.slice ta lt tc] 128)) ((wo.alloc (.cells #[.string pid,.string trk,.string ttl,.slice aa la ac,.slice ta lt tc] 128)).drewN nq):=Kept.drewN _ _ _;have hwq:=hwa.trans hkq;replace e0:=hkq.cell e0 trivial;replace e1:=hkq.cell e1 trivial;replace e2:=hkq.cell e2 trivial;replace e3:=hkq.cell e3 trivial;replace e4:=hkq.cell e4 trivial;(go_wp2_with fail);refine (isPlain_any ttl _ hz3 (HG.out _ hwq)).mono ?_;rintro e w4 ⟨rfl,hw4⟩;rw [h4];have m0:=hw4.cell e0 trivial;have m1:=hw4.cell e1 trivial;have m2:=hw4.cell e2 trivial;have m3:=hw4.cell e3 trivial;have m4:=hw4.cell e4 trivial;have hwc:=hwq.trans hw4;(go_wp2_with fail);go_ret;exact ⟨ret_int' (by rw [hfin.out]; exact hbad.out.symm),hwc⟩
          ·(have h7' : ((la : Int) == 0) = false:=by simp; omega);have HGD:=Lib.hid (papF_good (prev:=(lastId (xs.take 0))) (p:=⟨pid,trk,ttl,aus,tps⟩) HH1.out HH2.out HB.out HL.out (by have:=HLA.out; show aus.length≠0; omega));by_cases h8 : 20 < la
           ·(have h8' : decide ((20 : Int) < (la : Int)) = true:=by simp; omega);have hbad:=Lib.hid (HA.out.bad Hx.out (show papF (lastId (xs.take 0)) ⟨pid,trk,ttl,aus,tps⟩ = 2 from HGD.out.trans (if_pos (by have:=HLA.out; show 20 < aus.length; omega))) (by decide));clear h5 h6 h7 h8;(go_wp2_with fail);refine (isKey_any pid _ (by omega)).mono ?_;rintro e w2 ⟨rfl,hh⟩;subst hh;rw [h1];(go_wp2_with fail);refine (isKey_any trk _ (by omega)).mono ?_;rintro e w2 ⟨rfl,hh⟩;subst hh;rw [h2];go_wp2_with fail
            go_quiet (fail)
            rename_i nq
            have hkq : All (wo.alloc (.cells #[.string pid,.string trk,.string ttl,.slice aa la ac,.slice ta lt tc] 128)) ((wo.alloc (.cells #[.string pid,.string trk,.string ttl,.slice aa la ac,.slice ta lt tc] 128)).drewN nq):=Kept.drewN _ _ _;have hwq:=hwa.trans hkq;replace e0:=hkq.cell e0 trivial;replace e1:=hkq.cell e1 trivial;replace e2:=hkq.cell e2 trivial;replace e3:=hkq.cell e3 trivial;replace e4:=hkq.cell e4 trivial;(go_wp2_with fail);refine (isPlain_any ttl _ hz3 (HG.out _ hwq)).mono ?_;rintro e w4 ⟨rfl,hw4⟩;rw [h4];have m0:=hw4.cell e0 trivial;have m1:=hw4.cell e1 trivial;have m2:=hw4.cell e2 trivial;have m3:=hw4.cell e3 trivial;have m4:=hw4.cell e4 trivial;have hwc:=hwq.trans hw4;(go_wp2_with fail);go_ret;exact ⟨ret_int' (by rw [hfin.out]; exact hbad.out.symm),hwc⟩
           ·(have h8' : decide ((20 : Int) < (la : Int)) = false:=by simp; omega);have HRE:=Lib.hid (HGD.out.trans (if_neg (by have:=HLA.out; show ¬ 20 < aus.length; omega)));clear h5 h6 h7 h8;(go_wp2_with fail);refine (isKey_any pid _ (by omega)).mono ?_;rintro e w2 ⟨rfl,hh⟩;subst hh;rw [h1];(go_wp2_with fail);refine (isKey_any trk _ (by omega)).mono ?_;rintro e w2 ⟨rfl,hh⟩;subst hh;rw [h2];go_wp2_with fail
            go_quiet (fail)
            rename_i nq
            have hkq : All (wo.alloc (.cells #[.string pid,.string trk,.string ttl,.slice aa la ac,.slice ta lt tc] 128)) ((wo.alloc (.cells #[.string pid,.string trk,.string ttl,.slice aa la ac,.slice ta lt tc] 128)).drewN nq):=Kept.drewN _ _ _;have hwq:=hwa.trans hkq;replace e0:=hkq.cell e0 trivial;replace e1:=hkq.cell e1 trivial;replace e2:=hkq.cell e2 trivial;replace e3:=hkq.cell e3 trivial;replace e4:=hkq.cell e4 trivial;(go_wp2_with fail);refine (isPlain_any ttl _ hz3 (HG.out _ hwq)).mono ?_;rintro e w4 ⟨rfl,hw4⟩;rw [h4];have m0:=hw4.cell e0 trivial;have m1:=hw4.cell e1 trivial;have m2:=hw4.cell e2 trivial;have m3:=hw4.cell e3 trivial;have m4:=hw4.cell e4 trivial;have hwc:=hwq.trans hw4;(go_wp2_with fail);go_meet;exact ⟨HRE.out,m3,m4,(hko.trans hkq).trans hw4⟩
      ·obtain ⟨kp,rfl⟩ : ∃ kp,k = kp+1:=⟨k - 1,by omega⟩;obtain ⟨bq,oq,y,-,-,-,-,haq,-,p0,-,-,-,-,-,-,⟨hy1,-,-,-,-⟩,-,-,hy,-⟩:=(hs.keep RPap.ok hwr).atPap (k:=kp) (by omega)
       cases haq
       have hlast : lastId (xs.take (kp+1)) = some y.id:=lastId_succ hy;have q0:=(Kept.alloc (fun _=>True) wo (.cells #[.string pid,.string trk,.string ttl,.slice aa la ac,.slice ta lt tc] 128)).cell p0 trivial;clear p0 hy
       cases h3 : leB pid y.id with
       | true =>
        have h3' : (Op.bytesLess pid.toList y.id.toList || pid.toList == y.id.toList) = true:=h3;have hbad:=Lib.hid (HA.out.bad Hx.out (show papF (lastId (xs.take (kp+1))) ⟨pid,trk,ttl,aus,tps⟩ = 7 from papF_order HH1.out HH2.out (by rw [hlast]; exact h3)) (by decide));clear hlast h3;(go_wp2_with fail);refine (isKey_any pid _ (by omega)).mono ?_;rintro e w2 ⟨rfl,hh⟩;subst hh;rw [h1];(go_wp2_with fail);refine (isKey_any trk _ (by omega)).mono ?_;rintro e w2 ⟨rfl,hh⟩;subst hh;rw [h2];(go_wp2_with fail);have w1 : IntKind.i64.wrap (kp : Int) = (kp : Int):=IntWalk.i64_in _ (by omega);(have w3 : (0 : Int)≤(kp : Int):=by omega);have w4 : (kp : Int) < (len : Int):=by omega
        go_quiet (fail)
        clear w1 w3 w4
        rename_i nq
        have hkq : All (wo.alloc (.cells #[.string pid,.string trk,.string ttl,.slice aa la ac,.slice ta lt tc] 128)) ((wo.alloc (.cells #[.string pid,.string trk,.string ttl,.slice aa la ac,.slice ta lt tc] 128)).drewN nq):=Kept.drewN _ _ _;have hwq:=hwa.trans hkq;replace e0:=hkq.cell e0 trivial;replace e1:=hkq.cell e1 trivial;replace e2:=hkq.cell e2 trivial;replace e3:=hkq.cell e3 trivial;replace e4:=hkq.cell e4 trivial;(go_wp2_with fail);go_ret;exact ⟨ret_int' (by rw [hfin.out]; exact hbad.out.symm),hwq⟩
       | false =>
        have h3' : (Op.bytesLess pid.toList y.id.toList || pid.toList == y.id.toList) = false:=h3;have HB:=Lib.hid (show behindB (lastId (xs.take (kp+1))) pid = false by rw [hlast]; exact h3);clear hlast h3;by_cases h5 : ttl.size = 0
        ·(have hte : (ttl.toList == []) = true:=by rw [toList_nil h5]; rfl);have hbad:=Lib.hid (HA.out.bad Hx.out (show papF (lastId (xs.take (kp+1))) ⟨pid,trk,ttl,aus,tps⟩ = 3 from papF_form HH1.out HH2.out HB.out (Or.inl (by simp [lineB,h5]))) (by decide));clear h5;(go_wp2_with fail);refine (isKey_any pid _ (by omega)).mono ?_;rintro e w2 ⟨rfl,hh⟩;subst hh;rw [h1];(go_wp2_with fail);refine (isKey_any trk _ (by omega)).mono ?_;rintro e w2 ⟨rfl,hh⟩;subst hh;rw [h2];(go_wp2_with fail);have w1 : IntKind.i64.wrap (kp : Int) = (kp : Int):=IntWalk.i64_in _ (by omega);(have w3 : (0 : Int)≤(kp : Int):=by omega);have w4 : (kp : Int) < (len : Int):=by omega
         go_quiet (fail)
         clear w1 w3 w4
         rename_i nq
         have hkq : All (wo.alloc (.cells #[.string pid,.string trk,.string ttl,.slice aa la ac,.slice ta lt tc] 128)) ((wo.alloc (.cells #[.string pid,.string trk,.string ttl,.slice aa la ac,.slice ta lt tc] 128)).drewN nq):=Kept.drewN _ _ _;have hwq:=hwa.trans hkq;replace e0:=hkq.cell e0 trivial;replace e1:=hkq.cell e1 trivial;replace e2:=hkq.cell e2 trivial;replace e3:=hkq.cell e3 trivial;replace e4:=hkq.cell e4 trivial;(go_wp2_with fail);go_ret;exact ⟨ret_int' (by rw [hfin.out]; exact hbad.out.symm),hwq⟩
        ·have hte : (ttl.toList == []) = false:=by rw [beq_eq_false_iff_ne]; exact toList_ne h5
         cases h4 : plainB ttl with
         | false =>
          have hbad:=Lib.hid (HA.out.bad Hx.out (show papF (lastId (xs.take (kp+1))) ⟨pid,trk,ttl,aus,tps⟩ = 3 from papF_form HH1.out HH2.out HB.out (Or.inl (by simp [lineB,h4]))) (by decide));clear h5;(go_wp2_with fail);refine (isKey_any pid _ (by omega)).mono ?_;rintro e w2 ⟨rfl,hh⟩;subst hh;rw [h1];(go_wp2_with fail);refine (isKey_any trk _ (by omega)).mono ?_;rintro e w2 ⟨rfl,hh⟩;subst hh;rw [h2];(go_wp2_with fail);have w1 : IntKind.i64.wrap (kp : Int) = (kp : Int):=IntWalk.i64_in _ (by omega);(have w3 : (0 : Int)≤(kp : Int):=by omega);have w4 : (kp : Int) < (len : Int):=by omega
          go_quiet (fail)
          clear w1 w3 w4
          rename_i nq
          have hkq : All (wo.alloc (.cells #[.string pid,.string trk,.string ttl,.slice aa la ac,.slice ta lt tc] 128)) ((wo.alloc (.cells #[.string pid,.string trk,.string ttl,.slice aa la ac,.slice ta lt tc] 128)).drewN nq):=Kept.drewN _ _ _;have hwq:=hwa.trans hkq;replace e0:=hkq.cell e0 trivial;replace e1:=hkq.cell e1 trivial;replace e2:=hkq.cell e2 trivial;replace e3:=hkq.cell e3 trivial;replace e4:=hkq.cell e4 trivial;(go_wp2_with fail);refine (isPlain_any ttl _ hz3 (HG.out _ hwq)).mono ?_;rintro e w4 ⟨rfl,hw4⟩;rw [h4];have m0:=hw4.cell e0 trivial;have m1:=hw4.cell e1 trivial;have m2:=hw4.cell e2 trivial;have m3:=hw4.cell e3 trivial;have m4:=hw4.cell e4 trivial;have hwc:=hwq.trans hw4;(go_wp2_with fail);go_ret;exact ⟨ret_int' (by rw [hfin.out]; exact hbad.out.symm),hwc⟩
         | true =>
          by_cases h6 : 200 < ttl.size
          ·(have h6' : decide ((200 : Int) < (ttl.size : Int)) = true:=by simp; omega);have hbad:=Lib.hid (HA.out.bad Hx.out (show papF (lastId (xs.take (kp+1))) ⟨pid,trk,ttl,aus,tps⟩ = 3 from papF_form HH1.out HH2.out HB.out (Or.inl (by simp [lineB]; intros; omega))) (by decide));clear h5 h6;(go_wp2_with fail);refine (isKey_any pid _ (by omega)).mono ?_;rintro e w2 ⟨rfl,hh⟩;subst hh;rw [h1];(go_wp2_with fail);refine (isKey_any trk _ (by omega)).mono ?_;rintro e w2 ⟨rfl,hh⟩;subst hh;rw [h2];(go_wp2_with fail);have w1 : IntKind.i64.wrap (kp : Int) = (kp : Int):=IntWalk.i64_in _ (by omega);(have w3 : (0 : Int)≤(kp : Int):=by omega);have w4 : (kp : Int) < (len : Int):=by omega
           go_quiet (fail)
           clear w1 w3 w4
           rename_i nq
           have hkq : All (wo.alloc (.cells #[.string pid,.string trk,.string ttl,.slice aa la ac,.slice ta lt tc] 128)) ((wo.alloc (.cells #[.string pid,.string trk,.string ttl,.slice aa la ac,.slice ta lt tc] 128)).drewN nq):=Kept.drewN _ _ _;have hwq:=hwa.trans hkq;replace e0:=hkq.cell e0 trivial;replace e1:=hkq.cell e1 trivial;replace e2:=hkq.cell e2 trivial;replace e3:=hkq.cell e3 trivial;replace e4:=hkq.cell e4 trivial;(go_wp2_with fail);refine (isPlain_any ttl _ hz3 (HG.out _ hwq)).mono ?_;rintro e w4 ⟨rfl,hw4⟩;rw [h4];have m0:=hw4.cell e0 trivial;have m1:=hw4.cell e1 trivial;have m2:=hw4.cell e2 trivial;have m3:=hw4.cell e3 trivial;have m4:=hw4.cell e4 trivial;have hwc:=hwq.trans hw4;(go_wp2_with fail);go_ret;exact ⟨ret_int' (by rw [hfin.out]; exact hbad.out.symm),hwc⟩
          ·(have h6' : decide ((200 : Int) < (ttl.size : Int)) = false:=by simp; omega);have HL:=Lib.hid (show lineB ttl 200 = true by simp [lineB,h4,h5]; omega);by_cases h7 : la = 0
           ·(have h7' : ((la : Int) == 0) = true:=by simp [h7]);have hbad:=Lib.hid (HA.out.bad Hx.out (show papF (lastId (xs.take (kp+1))) ⟨pid,trk,ttl,aus,tps⟩ = 3 from papF_form HH1.out HH2.out HB.out (Or.inr (by have:=HLA.out; show aus.length = 0; omega))) (by decide));clear h5 h6 h7;(go_wp2_with fail);refine (isKey_any pid _ (by omega)).mono ?_;rintro e w2 ⟨rfl,hh⟩;subst hh;rw [h1];(go_wp2_with fail);refine (isKey_any trk _ (by omega)).mono ?_;rintro e w2 ⟨rfl,hh⟩;subst hh;rw [h2];(go_wp2_with fail);have w1 : IntKind.i64.wrap (kp : Int) = (kp : Int):=IntWalk.i64_in _ (by omega);(have w3 : (0 : Int)≤(kp : Int):=by omega);have w4 : (kp : Int) < (len : Int):=by omega
            go_quiet (fail)
            clear w1 w3 w4
            rename_i nq
            have hkq : All (wo.alloc (.cells #[.string pid,.string trk,.string ttl,.slice aa la ac,.slice ta lt tc] 128)) ((wo.alloc (.cells #[.string pid,.string trk,.string ttl,.slice aa la ac,.slice ta lt tc] 128)).drewN nq):=Kept.drewN _ _ _;have hwq:=hwa.trans hkq;replace e0:=hkq.cell e0 trivial;replace e1:=hkq.cell e1 trivial;replace e2:=hkq.cell e2 trivial;replace e3:=hkq.cell e3 trivial;replace e4:=hkq.cell e4 trivial;(go_wp2_with fail);refine (isPlain_any ttl _ hz3 (HG.out _ hwq)).mono ?_;rintro e w4 ⟨rfl,hw4⟩;rw [h4];have m0:=hw4.cell e0 trivial;have m1:=hw4.cell e1 trivial;have m2:=hw4.cell e2 trivial;have m3:=hw4.cell e3 trivial;have m4:=hw4.cell e4 trivial;have hwc:=hwq.trans hw4;(go_wp2_with fail);go_ret;exact ⟨ret_int' (by rw [hfin.out]; exact hbad.out.symm),hwc⟩
           ·(have h7' : ((la : Int) == 0) = false:=by simp; omega);have HGD:=Lib.hid (papF_good (prev:=(lastId (xs.take (kp+1)))) (p:=⟨pid,trk,ttl,aus,tps⟩) HH1.out HH2.out HB.out HL.out (by have:=HLA.out; show aus.length≠0; omega));by_cases h8 : 20 < la
            ·(have h8' : decide ((20 : Int) < (la : Int)) = true:=by simp; omega);have hbad:=Lib.hid (HA.out.bad Hx.out (show papF (lastId (xs.take (kp+1))) ⟨pid,trk,ttl,aus,tps⟩ = 2 from HGD.out.trans (if_pos (by have:=HLA.out; show 20 < aus.length; omega))) (by decide));clear h5 h6 h7 h8;(go_wp2_with fail);refine (isKey_any pid _ (by omega)).mono ?_;rintro e w2 ⟨rfl,hh⟩;subst hh;rw [h1];(go_wp2_with fail);refine (isKey_any trk _ (by omega)).mono ?_;rintro e w2 ⟨rfl,hh⟩;subst hh;rw [h2];(go_wp2_with fail);have w1 : IntKind.i64.wrap (kp : Int) = (kp : Int):=IntWalk.i64_in _ (by omega);(have w3 : (0 : Int)≤(kp : Int):=by omega);have w4 : (kp : Int) < (len : Int):=by omega
             go_quiet (fail)
             clear w1 w3 w4
             rename_i nq
             have hkq : All (wo.alloc (.cells #[.string pid,.string trk,.string ttl,.slice aa la ac,.slice ta lt tc] 128)) ((wo.alloc (.cells #[.string pid,.string trk,.string ttl,.slice aa la ac,.slice ta lt tc] 128)).drewN nq):=Kept.drewN _ _ _;have hwq:=hwa.trans hkq;replace e0:=hkq.cell e0 trivial;replace e1:=hkq.cell e1 trivial;replace e2:=hkq.cell e2 trivial;replace e3:=hkq.cell e3 trivial;replace e4:=hkq.cell e4 trivial;(go_wp2_with fail);refine (isPlain_any ttl _ hz3 (HG.out _ hwq)).mono ?_;rintro e w4 ⟨rfl,hw4⟩;rw [h4];have m0:=hw4.cell e0 trivial;have m1:=hw4.cell e1 trivial;have m2:=hw4.cell e2 trivial;have m3:=hw4.cell e3 trivial;have m4:=hw4.cell e4 trivial;have hwc:=hwq.trans hw4;(go_wp2_with fail);go_ret;exact ⟨ret_int' (by rw [hfin.out]; exact hbad.out.symm),hwc⟩
            ·(have h8' : decide ((20 : Int) < (la : Int)) = false:=by simp; omega);have HRE:=Lib.hid (HGD.out.trans (if_neg (by have:=HLA.out; show ¬ 20 < aus.length; omega)));clear h5 h6 h7 h8;(go_wp2_with fail);refine (isKey_any pid _ (by omega)).mono ?_;rintro e w2 ⟨rfl,hh⟩;subst hh;rw [h1];(go_wp2_with fail);refine (isKey_any trk _ (by omega)).mono ?_;rintro e w2 ⟨rfl,hh⟩;subst hh;rw [h2];(go_wp2_with fail);have w1 : IntKind.i64.wrap (kp : Int) = (kp : Int):=IntWalk.i64_in _ (by omega);(have w3 : (0 : Int)≤(kp : Int):=by omega);have w4 : (kp : Int) < (len : Int):=by omega
             go_quiet (fail)
             clear w1 w3 w4
             rename_i nq
             have hkq : All (wo.alloc (.cells #[.string pid,.string trk,.string ttl,.slice aa la ac,.slice ta lt tc] 128)) ((wo.alloc (.cells #[.string pid,.string trk,.string ttl,.slice aa la ac,.slice ta lt tc] 128)).drewN nq):=Kept.drewN _ _ _;have hwq:=hwa.trans hkq;replace e0:=hkq.cell e0 trivial;replace e1:=hkq.cell e1 trivial;replace e2:=hkq.cell e2 trivial;replace e3:=hkq.cell e3 trivial;replace e4:=hkq.cell e4 trivial;(go_wp2_with fail);refine (isPlain_any ttl _ hz3 (HG.out _ hwq)).mono ?_;rintro e w4 ⟨rfl,hw4⟩;rw [h4];have m0:=hw4.cell e0 trivial;have m1:=hw4.cell e1 trivial;have m2:=hw4.cell e2 trivial;have m3:=hw4.cell e3 trivial;have m4:=hw4.cell e4 trivial;have hwc:=hwq.trans hw4;(go_wp2_with fail);go_meet;exact ⟨HRE.out,m3,m4,(hko.trans hkq).trans hw4⟩
   case rest =>
    obtain ⟨hre,m3,m4,hwo⟩:=hcut;obtain ⟨wd,rfl⟩ : ∃ x : World,x = wc:=⟨_,rfl⟩;have HRE:=Lib.hid hre;have hwc:=hwr.trans hwo;have HD:=Lib.hid (differentKeys_any aa la ac aus _ (HSA'.out wd hwo) (by omega) hac);clear hre e0 e1 e2 e3 e4 hwa hko c0 c1 c2 c3 c4;obtain ⟨z,hz⟩ : ∃ z,z = orderG [] aus:=⟨_,rfl⟩;have HZ:=Lib.hid hz;rw [← hz] at HD;clear hz;by_cases hz0 : z = 0
    ·subst hz0;have HR2:=Lib.hid (HRE.out.trans (if_neg (by rw [← HZ.out]; simp)));by_cases h100 : 100 < lt
     ·(have hd100 : decide ((100 : Int) < (lt : Int)) = true:=by simp; omega);have hbad:=Lib.hid (HA.out.bad Hx.out (HR2.out.trans (if_pos (by have:=HLT.out; show 100 < tps.length; omega))) (by decide));clear h100;(go_wp2_with fail);refine HD.out.mono ?_;rintro e w5 ⟨rfl,hw5⟩;have n4:=hw5.cell m4 trivial;(go_wp2_with fail);go_ret;exact ⟨ret_int' (by rw [hfin.out]; exact hbad.out.symm),hwc.trans hw5⟩
     ·(have hd100 : decide ((100 : Int) < (lt : Int)) = false:=by simp; omega);have HR3:=Lib.hid (HR2.out.trans (if_neg (by have:=HLT.out; show ¬ 100 < tps.length; omega)));have HT2:=Lib.hid (fun (wx : World) (k : All wo wx)=>risingFault_any ta lt tc tps wx (HST'.out wx k) (by omega));obtain ⟨y,hy⟩ : ∃ z,z = riseF none tps:=⟨_,rfl⟩;have HY:=Lib.hid hy;rw [← hy] at HT2;clear h100 hy;by_cases hy0 : y = 0
      ·subst hy0;have HNX:=Lib.hid (HA.out.next Hx.out (HR3.out.trans HY.out.symm));(go_wp2_with fail);refine HD.out.mono ?_;rintro e w5 ⟨rfl,hw5⟩;have n4:=hw5.cell m4 trivial;have hwe:=hwc.trans hw5;(go_wp2_with fail);refine (HT2.out _ (hwo.trans hw5)).mono ?_;rintro e w6 ⟨rfl,hh⟩;subst hh;(go_wp2_with fail);go_roundw
       case rel=>exact ⟨k+1,by omega,by go_num,HNX.out,hwe⟩
       case measure=>simp [intOf]; omega
      ·(have hy1 : (y == 0) = false:=by simpa using hy0);have hbad:=Lib.hid (HA.out.bad Hx.out (HR3.out.trans HY.out.symm) hy0);(go_wp2_with fail);refine HD.out.mono ?_;rintro e w5 ⟨rfl,hw5⟩;have n4:=hw5.cell m4 trivial;have hwe:=hwc.trans hw5;(go_wp2_with fail);refine (HT2.out _ (hwo.trans hw5)).mono ?_;rintro e w6 ⟨rfl,hh⟩;subst hh;(go_wp2_with fail);go_ret;exact ⟨ret_int' (by rw [hfin.out]; exact hbad.out.symm),hwe⟩
    ·(have hz1 : (z == 0) = false:=by simpa using hz0);have hbad:=Lib.hid (HA.out.bad Hx.out (HRE.out.trans ((if_pos (by rw [← HZ.out]; exact hz0)).trans HZ.out.symm)) hz0);(go_wp2_with fail);refine HD.out.mono ?_;rintro e w5 ⟨rfl,hw5⟩;(go_wp2_with fail);go_ret;exact ⟨ret_int' (by rw [hfin.out]; exact hbad.out.symm),hwc.trans hw5⟩
  ·(have hdk : decide ((k : Int) < (len : Int)) = false:=by simp; omega);(go_wp2_with fail);go_ret;exact ⟨ret_int' (by rw [hfin.out]; exact (HA.out.ok (by have:=Hlen.out; omega)).symm),hwr⟩
end Go.Proofs.YtjbaijgdkkccbaaGreatDoor

/- CheckSetup answers setupF. -/
namespace Go.Proofs.YtjbaijgdkkccbaaGreatDoor
open Go.RowKit

def SetAt (bb : Nat) (v0 v1 v2 v3 v4 : Value) (due rep : Int) (w : World) : Prop:=w.cell? ⟨bb,0,none⟩ = some v0∧w.cell? ⟨bb,1,none⟩ = some v1∧w.cell? ⟨bb,2,none⟩ = some v2∧w.cell? ⟨bb,3,none⟩ = some v3∧w.cell? ⟨bb,4,none⟩ = some v4∧w.cell? ⟨bb,5,none⟩ = some (.int .i64 due)∧w.cell? ⟨bb,6,none⟩ = some (.int .i64 rep)
theorem SetAt.keep {bb : Nat} {v0 v1 v2 v3 v4 : Value} {due rep : Int} {w w' : World} (h : SetAt bb v0 v1 v2 v3 v4 due rep w) (k : All w w') : SetAt bb v0 v1 v2 v3 v4 due rep w' :=
 ⟨k.cell h.1 trivial,k.cell h.2.1 trivial,k.cell h.2.2.1 trivial,k.cell h.2.2.2.1 trivial,k.cell h.2.2.2.2.1 trivial,k.cell h.2.2.2.2.2.1 trivial,k.cell h.2.2.2.2.2.2 trivial⟩

set_option maxRecDepth 100000 in
set_option maxHeartbeats 12800000 in
theorem checkSetup_any (a0 : Option Addr) (l0 c0 : Nat) (a1 : Option Addr) (l1 c1 : Nat) (a2 : Option Addr) (l2 c2 : Nat) (a3 : Option Addr) (l3 c3 : Nat) (a4 : Option Addr) (l4 c4 : Nat) (s : Set7) (w : World) (h : SetIs (fun _=>True) w a0 l0 a1 l1 a2 l2 a3 l3 a4 l4 s) (hg : Glob w) :
  Calls Tryz.prog 129 #[.agg #[.slice a0 l0 c0,.slice a1 l1 c1,.slice a2 l2 c2,.slice a3 l3 c3,.slice a4 l4 c4,.int .i64 s.due,.int .i64 s.reply]] w fun e w'=>e = .returned (.int .i64 (setupF s))∧All w w':=by
 have hk1 : All w (w.alloc (.cells #[.slice a0 l0 c0,.slice a1 l1 c1,.slice a2 l2 c2,.slice a3 l3 c3,.slice a4 l4 c4,.int .i64 s.due,.int .i64 s.reply] 31)):=Kept.alloc _ _ _;have hblk:=heap_at w (.cells #[.slice a0 l0 c0,.slice a1 l1 c1,.slice a2 l2 c2,.slice a3 l3 c3,.slice a4 l4 c4,.int .i64 s.due,.int .i64 s.reply] 31) _ rfl;have hB : SetAt w.heap.size (.slice a0 l0 c0) (.slice a1 l1 c1) (.slice a2 l2 c2) (.slice a3 l3 c3) (.slice a4 l4 c4) s.due s.reply (w.alloc (.cells #[.slice a0 l0 c0,.slice a1 l1 c1,.slice a2 l2 c2,.slice a3 l3 c3,.slice a4 l4 c4,.int .i64 s.due,.int .i64 s.reply] 31)):=⟨cell_at (i:=0) hblk rfl,cell_at (i:=1) hblk rfl,cell_at (i:=2) hblk rfl,cell_at (i:=3) hblk rfl,cell_at (i:=4) hblk rfl,cell_at (i:=5) hblk rfl,cell_at (i:=6) hblk rfl⟩;have HI:=Lib.hid (h.keep hk1);have HG:=Lib.hid (hg.keep hk1);obtain ⟨bb,hbb⟩ : ∃ b,b = w.heap.size:=⟨_,rfl⟩;have Hbb:=Lib.hid hbb;rw [← hbb] at hB;(have ix0 : ∀ W : World,(Instr.index 246 (.agg #[.slice a2 l2 c2,.slice a3 l3 c3]) (.int .i64 0)).run Tryz.prog W = .ok (.slice a2 l2 c2) W:=fun W=>by kernel_rfl);(have ix1 : ∀ W : World,(Instr.index 246 (.agg #[.slice a2 l2 c2,.slice a3 l3 c3]) (.int .i64 1)).run Tryz.prog W = .ok (.slice a3 l3 c3) W:=fun W=>by kernel_rfl);clear hbb hblk h hg;obtain ⟨er,her⟩ : ∃ e,e = setupF s:=⟨_,rfl⟩;have HER:=Lib.hid her;rw [← her];clear her;(go_enter Tryz.func129,Tryz.ntmps129);obtain ⟨e0,e1,e2,e3,e4,e5,e6⟩:=hB;have hm2:=HI.out.n2;have hm3:=HI.out.n3;have hm4:=HI.out.n4;obtain ⟨z1,hz1⟩ : ∃ z,z = sheetF s.sheet:=⟨_,rfl⟩;have HZ1:=Lib.hid hz1;clear hz1;(go_wp2_with fail);rw [← Hbb.out];have HB:=Lib.hid (show SetAt bb (.slice a0 l0 c0) (.slice a1 l1 c1) (.slice a2 l2 c2) (.slice a3 l3 c3) (.slice a4 l4 c4) s.due s.reply (w.alloc (.cells #[.slice a0 l0 c0,.slice a1 l1 c1,.slice a2 l2 c2,.slice a3 l3 c3,.slice a4 l4 c4,.int .i64 s.due,.int .i64 s.reply] 31)) from ⟨e0,e1,e2,e3,e4,e5,e6⟩);clear Hbb;generalize w.alloc (.cells #[.slice a0 l0 c0,.slice a1 l1 c1,.slice a2 l2 c2,.slice a3 l3 c3,.slice a4 l4 c4,.int .i64 s.due,.int .i64 s.reply] 31) = w1 at *;refine (checkSheet_any a0 l0 c0 s.sheet _ HI.out.sheet (by have:=HI.out.n0; omega)).mono ?_;rintro e w2 ⟨rfl,hw2⟩;rw [← HZ1.out];clear e0 e1 e2 e3 e4 e5 e6;obtain ⟨e0,e1,e2,e3,e4,e5,e6⟩:=HB.out.keep hw2;by_cases hn1 : z1 = 0
 case neg =>
  (have hne : (z1 != 0) = true:=by simpa using hn1);have hfin:=Lib.hid (show er = z1 from by rw [HER.out]; exact (setupF_1 (by rw [← HZ1.out]; exact hn1)).trans HZ1.out.symm);(go_wp2_with fail);go_ret;exact ⟨ret_int' hfin.out.symm,hk1.trans hw2⟩
 case pos =>
  subst hn1;have P1:=Lib.hid HZ1.out.symm;obtain ⟨z2,hz2⟩ : ∃ z,z = papersF s.papers:=⟨_,rfl⟩;have HZ2:=Lib.hid hz2;clear hz2;(go_wp2_with fail);refine (checkPapers_any a1 l1 c1 s.papers _ (HI.out.keep hw2).papers (by have:=HI.out.n1; omega) (HG.out.keep hw2)).mono ?_;rintro e w3 ⟨rfl,hw3'⟩;rw [← HZ2.out];have hw3:=hw2.trans hw3';clear e0 e1 e2 e3 e4 e5 e6 hw3';obtain ⟨e0,e1,e2,e3,e4,e5,e6⟩:=HB.out.keep hw3;by_cases hn2 : z2 = 0
  case neg =>
   (have hne : (z2 != 0) = true:=by simpa using hn2);have hfin:=Lib.hid (show er = z2 from by rw [HER.out]; exact (setupF_2 P1.out (by rw [← HZ2.out]; exact hn2)).trans HZ2.out.symm);(go_wp2_with fail);go_ret;exact ⟨ret_int' hfin.out.symm,hk1.trans hw3⟩
  case pos =>
   subst hn2;have P2:=Lib.hid HZ2.out.symm;have HRI:=Lib.hid (papersF_rises P2.out);clear HZ1 HZ2;(go_wp2_with fail);go_loopw [32] (fun i wr=>∃ k : Nat,k≤2∧i = .int .i64 k∧(1≤k→listF s.papers s.pairs = 0)∧(2≤k→listF s.papers s.barred = 0)∧All w1 wr) (fun i _=>2 - (intOf i).toNat)
   case atStart=>exact ⟨0,by omega,rfl,fun h=>absurd h (by omega),fun h=>absurd h (by omega),hw3⟩
   case round =>
    clear e0 e1 e2 e3 e4 e5 e6;obtain ⟨k,hk,rfl,h1,h2,hall⟩:=hrel;obtain ⟨wo,rfl⟩ : ∃ wo : World,wo = wr:=⟨_,rfl⟩;have H1:=Lib.hid h1;have H2:=Lib.hid h2;clear h1 h2;(have h3 : k = 0∨k = 1∨k = 2:=by omega);rcases h3 with rfl | rfl | rfl
    ·skip
     obtain ⟨f,hf⟩ : ∃ f,f = pairsF s.pairs:=⟨_,rfl⟩;have HF:=Lib.hid hf;clear hf;(go_wp2_with fail);refine (checkPairs_any a2 l2 c2 s.pairs _ (HI.out.keep hall).pairs HI.out.n2).mono ?_;rintro e w4 ⟨rfl,hw4⟩;have hall4:=hall.trans hw4;rw [← HF.out];by_cases hf0 : f = 0
     ·subst hf0;clear hall hw4;(go_wp2_with fail);go_loopw [42] (fun i wq=>∃ j : Nat,j≤l2∧i = .int .i64 j∧knownB s.papers (s.pairs.take j) = true∧All w1 wq) (fun i _=>l2 - (intOf i).toNat)
      case atStart=>exact ⟨0,Nat.zero_le _,rfl,rfl,hall4⟩
      case round =>
       clear hall4;obtain ⟨j,hj,rfl,hkn,hq⟩:=hrel;obtain ⟨wp,rfl⟩ : ∃ wo : World,wo = wr:=⟨_,rfl⟩;have HKN:=Lib.hid hkn;clear hkn;by_cases hlt : j < l2
       ·obtain ⟨b,off,x,ha,-,d0,d1,hx,-,htk⟩:=(HI.out.keep hq).pairs.atPair hlt;subst ha;have Hx:=Lib.hid hx;have HTK:=Lib.hid htk;clear hx htk;have hblk:=heap_at wp (.cells #[.string x.paper,.string x.person] 39) _ rfl;have q0:=cell_at (i:=0) hblk rfl;have q1:=cell_at (i:=1) hblk rfl;have hqa:=hq.then_alloc (.cells #[.string x.paper,.string x.person] 39);clear hblk;obtain ⟨e0,e1,e2,e3,e4,e5,e6⟩:=HB.out.keep hqa;have HP:=Lib.hid (paperOf_any a1 l1 c1 s.papers x.paper _ (HI.out.keep hqa).papers HI.out.n1 HRI.out);unfold PapVal at HP
        cases hpo : papOf s.papers x.paper with
        | none =>
         rw [hpo] at HP;have hfin:=Lib.hid (show er = 8 from by rw [HER.out]; have hl : listF s.papers s.pairs = 8:=listF_none HF.out.symm (knownB_bad Hx.out (by rw [hpo]; rfl)); exact (setupF_3 P1.out P2.out (by rw [hl]; decide)).trans hl);clear hpo;(go_wp2_with fail);refine HP.out.mono ?_;rintro e w5 ⟨⟨v,rfl,hv⟩,hw5⟩;obtain rfl:=hv;clear HP;(go_wp2_with fail);go_ret;exact ⟨ret_int' hfin.out.symm,((hk1.trans hqa).trans hw5).then_alloc _⟩
        | some y =>
         rw [hpo] at HP;have hnx:=Lib.hid (knownB_take HKN.out HTK.out (by rw [hpo]; rfl));clear hpo;(go_wp2_with fail);refine HP.out.mono ?_;rintro e w5 ⟨⟨v,rfl,hv⟩,hw5⟩;obtain ⟨aa,ac,ta,tc,rfl,-⟩:=hv;clear HP;have hqb:=hqa.trans hw5;clear hqa hw5 e0 e1 e2 e3 e4 e5 e6 q0 q1 d0 d1;(go_wp2_with fail);go_roundw
         case rel=>exact ⟨j+1,by omega,by go_num,hnx.out,hqb.then_alloc _⟩
         case measure=>simp [intOf]; omega
       ·(have hdj : decide ((j : Int) < (l2 : Int)) = false:=by simp; omega);have hok:=Lib.hid (listF_ok (ps:=s.papers) (l:=s.pairs) HF.out.symm (by have h:=HKN.out; rw [List.take_of_length_le (by have:=HI.out.pairs.len; omega)] at h; exact h));(go_wp2_with fail);go_roundw
        case rel=>exact ⟨1,by omega,rfl,fun _=>hok.out,fun h=>absurd h (by omega),hq⟩
        case measure=>simp [intOf]
     ·(have hne : (f != 0) = true:=by simpa using hf0);have hl:=Lib.hid (listF_pairs (ps:=s.papers) (l:=s.pairs) (by rw [← HF.out]; exact hf0));have hfin:=Lib.hid (show er = f from by rw [HER.out]; exact (setupF_3 P1.out P2.out (by rw [hl.out,← HF.out]; exact hf0)).trans (hl.out.trans HF.out.symm));(go_wp2_with fail);go_ret;exact ⟨ret_int' hfin.out.symm,hk1.trans hall4⟩
    ·skip
     obtain ⟨f,hf⟩ : ∃ f,f = pairsF s.barred:=⟨_,rfl⟩;have HF:=Lib.hid hf;clear hf;(go_wp2_with fail);refine (checkPairs_any a3 l3 c3 s.barred _ (HI.out.keep hall).barred HI.out.n3).mono ?_;rintro e w4 ⟨rfl,hw4⟩;have hall4:=hall.trans hw4;rw [← HF.out];by_cases hf0 : f = 0
     ·subst hf0;clear hall hw4;(go_wp2_with fail);go_loopw [42] (fun i wq=>∃ j : Nat,j≤l3∧i = .int .i64 j∧knownB s.papers (s.barred.take j) = true∧All w1 wq) (fun i _=>l3 - (intOf i).toNat)
      case atStart=>exact ⟨0,Nat.zero_le _,rfl,rfl,hall4⟩
      case round =>
       clear hall4;obtain ⟨j,hj,rfl,hkn,hq⟩:=hrel;obtain ⟨wp,rfl⟩ : ∃ wo : World,wo = wr:=⟨_,rfl⟩;have HKN:=Lib.hid hkn;clear hkn;by_cases hlt : j < l3
       ·obtain ⟨b,off,x,ha,-,d0,d1,hx,-,htk⟩:=(HI.out.keep hq).barred.atPair hlt;subst ha;have Hx:=Lib.hid hx;have HTK:=Lib.hid htk;clear hx htk;have hblk:=heap_at wp (.cells #[.string x.paper,.string x.person] 39) _ rfl;have q0:=cell_at (i:=0) hblk rfl;have q1:=cell_at (i:=1) hblk rfl;have hqa:=hq.then_alloc (.cells #[.string x.paper,.string x.person] 39);clear hblk;obtain ⟨e0,e1,e2,e3,e4,e5,e6⟩:=HB.out.keep hqa;have HP:=Lib.hid (paperOf_any a1 l1 c1 s.papers x.paper _ (HI.out.keep hqa).papers HI.out.n1 HRI.out);unfold PapVal at HP
        cases hpo : papOf s.papers x.paper with
        | none =>
         rw [hpo] at HP;have hfin:=Lib.hid (show er = 8 from by rw [HER.out]; have hl : listF s.papers s.barred = 8:=listF_none HF.out.symm (knownB_bad Hx.out (by rw [hpo]; rfl)); exact (setupF_4 P1.out P2.out (H1.out (by omega)) (by rw [hl]; decide)).trans hl);clear hpo;(go_wp2_with fail);refine HP.out.mono ?_;rintro e w5 ⟨⟨v,rfl,hv⟩,hw5⟩;obtain rfl:=hv;clear HP;(go_wp2_with fail);go_ret;exact ⟨ret_int' hfin.out.symm,((hk1.trans hqa).trans hw5).then_alloc _⟩
        | some y =>
         rw [hpo] at HP;have hnx:=Lib.hid (knownB_take HKN.out HTK.out (by rw [hpo]; rfl));clear hpo;(go_wp2_with fail);refine HP.out.mono ?_;rintro e w5 ⟨⟨v,rfl,hv⟩,hw5⟩;obtain ⟨aa,ac,ta,tc,rfl,-⟩:=hv;clear HP;have hqb:=hqa.trans hw5;clear hqa hw5 e0 e1 e2 e3 e4 e5 e6 q0 q1 d0 d1;(go_wp2_with fail);go_roundw
         case rel=>exact ⟨j+1,by omega,by go_num,hnx.out,hqb.then_alloc _⟩
         case measure=>simp [intOf]; omega
       ·(have hdj : decide ((j : Int) < (l3 : Int)) = false:=by simp; omega);have hok:=Lib.hid (listF_ok (ps:=s.papers) (l:=s.barred) HF.out.symm (by have h:=HKN.out; rw [List.take_of_length_le (by have:=HI.out.barred.len; omega)] at h; exact h));(go_wp2_with fail);go_roundw
        case rel=>exact ⟨2,by omega,rfl,fun _=>H1.out (by omega),fun _=>hok.out,hq⟩
        case measure=>simp [intOf]
     ·(have hne : (f != 0) = true:=by simpa using hf0);have hl:=Lib.hid (listF_pairs (ps:=s.papers) (l:=s.barred) (by rw [← HF.out]; exact hf0));have hfin:=Lib.hid (show er = f from by rw [HER.out]; exact (setupF_4 P1.out P2.out (H1.out (by omega)) (by rw [hl.out,← HF.out]; exact hf0)).trans (hl.out.trans HF.out.symm));(go_wp2_with fail);go_ret;exact ⟨ret_int' hfin.out.symm,hk1.trans hall4⟩
    ·skip
     rw [show ((2 : Nat) : Int) = 2 from rfl];have P3:=Lib.hid (H1.out (by omega));have P4:=Lib.hid (H2.out (by omega));have HRB:=Lib.hid (pairsF_rises (listF_pairs0 P4.out)).2;have HEQ:=Lib.hid (setupF_ok4 P1.out P2.out P3.out P4.out);clear H1 H2 ix0 ix1;obtain ⟨e0,e1,e2,e3,e4,e5,e6⟩:=HB.out.keep hall;(go_wp2_with fail);go_loopw [61] (fun i wq=>∃ j : Nat,j≤l2∧i = .int .i64 j∧(s.pairs.take j).any (badP s) = false∧All w1 wq) (fun i _=>l2 - (intOf i).toNat)
     case atStart=>exact ⟨0,Nat.zero_le _,rfl,rfl,hall⟩
     case round =>
      clear hall e0 e1 e2 e3 e4 e5 e6;obtain ⟨j,hj,rfl,hkn,hq⟩:=hrel;obtain ⟨wp,rfl⟩ : ∃ wo : World,wo = wr:=⟨_,rfl⟩;have HKN:=Lib.hid hkn;clear hkn;by_cases hlt : j < l2
      ·obtain ⟨b,off,x,ha,-,d0,d1,hx,-,htk⟩:=(HI.out.keep hq).pairs.atPair hlt;subst ha;have Hx:=Lib.hid hx;have HTK:=Lib.hid htk;clear hx htk;have hblk:=heap_at wp (.cells #[.string x.paper,.string x.person] 39) _ rfl;have q0:=cell_at (i:=0) hblk rfl;have q1:=cell_at (i:=1) hblk rfl;have hqa:=hq.then_alloc (.cells #[.string x.paper,.string x.person] 39);clear hblk;obtain ⟨e0,e1,e2,e3,e4,e5,e6⟩:=HB.out.keep hqa;have HP:=Lib.hid (isInR_any a3 l3 c3 s.barred x _ (HI.out.keep hqa).barred HI.out.n3 HRB.out)
       cases hin : inP s.barred x.paper x.person with
       | true =>
        have hfin:=Lib.hid (show er = 13 from by rw [HER.out,HEQ.out]; exact if_pos (any_bad Hx.out (show badP s x = true by rw [badP,hin]; rfl)));rw [hin] at HP;clear hin;(go_wp2_with fail);refine HP.out.mono ?_;rintro e w5 ⟨rfl,hw5⟩;clear HP;(go_wp2_with fail);go_ret;exact ⟨ret_int' hfin.out.symm,(hk1.trans hqa).trans hw5⟩
       | false =>
        rw [hin] at HP;have HIN:=Lib.hid hin;clear hin;have HA:=Lib.hid (fun (wx : World) (k : All w1 wx)=>isAuthor_any a0 l0 c0 a1 l1 c1 (some ⟨b,off,none⟩) l2 c2 a3 l3 c3 a4 l4 c4 s.due s.reply s.papers x.paper x.person wx (HI.out.keep k).papers HI.out.n1 HRI.out)
        cases hau : authB s.papers x.paper x.person with
        | true =>
         have hfin:=Lib.hid (show er = 13 from by rw [HER.out,HEQ.out]; exact if_pos (any_bad Hx.out (show badP s x = true by rw [badP,HIN.out,hau]; rfl)));have HAU:=Lib.hid hau;clear hau;(go_wp2_with fail);refine HP.out.mono ?_;rintro e w5 ⟨rfl,hw5⟩;have hqb:=hqa.trans hw5;have r0:=hw5.cell q0 trivial;have r1:=hw5.cell q1 trivial;clear HP e0 e1 e2 e3 e4 e5 e6;obtain ⟨e0,e1,e2,e3,e4,e5,e6⟩:=HB.out.keep hqb;(go_wp2_with fail);refine (HA.out _ hqb).mono ?_;rintro e w6 ⟨rfl,hw6⟩;rw [HAU.out];have hqc:=hqb.trans hw6;clear e0 e1 e2 e3 e4 e5 e6 r0 r1 q0 q1 d0 d1 hw6 hw5 hqa hqb;(go_wp2_with fail);go_ret;exact ⟨ret_int' hfin.out.symm,hk1.trans hqc⟩
        | false =>
         have hnx:=Lib.hid (any_take HKN.out HTK.out (show badP s x = false by rw [badP,HIN.out,hau]; rfl));have HAU:=Lib.hid hau;clear hau;(go_wp2_with fail);refine HP.out.mono ?_;rintro e w5 ⟨rfl,hw5⟩;have hqb:=hqa.trans hw5;have r0:=hw5.cell q0 trivial;have r1:=hw5.cell q1 trivial;clear HP e0 e1 e2 e3 e4 e5 e6;obtain ⟨e0,e1,e2,e3,e4,e5,e6⟩:=HB.out.keep hqb;(go_wp2_with fail);refine (HA.out _ hqb).mono ?_;rintro e w6 ⟨rfl,hw6⟩;rw [HAU.out];have hqc:=hqb.trans hw6;clear e0 e1 e2 e3 e4 e5 e6 r0 r1 q0 q1 d0 d1 hw6 hw5 hqa hqb;(go_wp2_with fail);go_roundw
         case rel=>exact ⟨j+1,by omega,by go_num,hnx.out,hqc⟩
         case measure=>simp [intOf]; omega
      ·(have hdj : decide ((j : Int) < (l2 : Int)) = false:=by simp; omega);have hcl:=Lib.hid (show ¬ clashS s = true from by have h:=HKN.out; rw [List.take_of_length_le (by have:=HI.out.pairs.len; omega)] at h; rw [clashS,h]; simp);have HE1:=Lib.hid (HEQ.out.trans (if_neg hcl.out));clear HKN;obtain ⟨e0,e1,e2,e3,e4,e5,e6⟩:=HB.out.keep hq;by_cases h20 : 20 < l4
       ·(have hd : decide ((20 : Int) < (l4 : Int)) = true:=by simp; omega);have hfin:=Lib.hid (show er = 2 from by rw [HER.out]; exact HE1.out.trans (if_pos (by have:=HI.out.chairs.len; omega)));(go_wp2_with fail);go_ret;exact ⟨ret_int' hfin.out.symm,hk1.trans hq⟩
       ·(have hd : decide ((20 : Int) < (l4 : Int)) = false:=by simp; omega);have HE2:=Lib.hid (HE1.out.trans (if_neg (by have:=HI.out.chairs.len; omega)));obtain ⟨f,hf⟩ : ∃ f,f = riseF none s.chairs:=⟨_,rfl⟩;have HF:=Lib.hid hf;clear hf h20;(go_wp2_with fail);refine (risingFault_any a4 l4 c4 s.chairs _ (HI.out.keep hq).chairs HI.out.n4).mono ?_;rintro e w5 ⟨rfl,hh⟩;subst hh;have hqb:=hq;rw [← HF.out];by_cases hf0 : f = 0
        case neg =>
         (have hne : (f != 0) = true:=by simpa using hf0);have hfin:=Lib.hid (show er = f from by rw [HER.out]; exact (HE2.out.trans (if_pos (by rw [← HF.out]; exact hf0))).trans HF.out.symm);(go_wp2_with fail);go_ret;exact ⟨ret_int' hfin.out.symm,hk1.trans hqb⟩
        case pos =>
         subst hf0;have HE3:=Lib.hid (HE2.out.trans (if_neg (by rw [← HF.out]; simp)));clear HE1 HE2 HF;by_cases hD : s.due < 0∨5761440 < s.due
         case pos =>
          have hfin:=Lib.hid (show er = 1 from by rw [HER.out]; exact HE3.out.trans (if_pos (Or.inl hD)));(go_wp2_with fail);refine (outside_any s.due 0 5761440 _).mono ?_;rintro e wz ⟨rfl,hh⟩;subst hh;rw [show decide (s.due < 0∨5761440 < s.due) = true by simpa using hD];(go_wp2_with fail);go_ret;exact ⟨ret_int' hfin.out.symm,hk1.trans hqb⟩
         case neg =>
          by_cases hR : s.reply < 0∨5761440 < s.reply
          case pos =>
           have hfin:=Lib.hid (show er = 1 from by rw [HER.out]; exact HE3.out.trans (if_pos (Or.inr hR)));(go_wp2_with fail);refine (outside_any s.due 0 5761440 _).mono ?_;rintro e wz ⟨rfl,hh⟩;subst hh;rw [show decide (s.due < 0∨5761440 < s.due) = false by simpa using hD];(go_wp2_with fail);refine (outside_any s.reply 0 5761440 _).mono ?_;rintro e wz ⟨rfl,hh⟩;subst hh;rw [show decide (s.reply < 0∨5761440 < s.reply) = true by simpa using hR];(go_wp2_with fail);go_ret;exact ⟨ret_int' hfin.out.symm,hk1.trans hqb⟩
          case neg =>
           have hfin:=Lib.hid (show er = 0 from by rw [HER.out]; exact HE3.out.trans (if_neg (fun h=>h.elim hD hR)));(go_wp2_with fail);refine (outside_any s.due 0 5761440 _).mono ?_;rintro e wz ⟨rfl,hh⟩;subst hh;rw [show decide (s.due < 0∨5761440 < s.due) = false by simpa using hD];(go_wp2_with fail);refine (outside_any s.reply 0 5761440 _).mono ?_;rintro e wz ⟨rfl,hh⟩;subst hh;rw [show decide (s.reply < 0∨5761440 < s.reply) = false by simpa using hR];(go_wp2_with fail);go_ret;exact ⟨ret_int' hfin.out.symm,hk1.trans hqb⟩
end Go.Proofs.YtjbaijgdkkccbaaGreatDoor

/- Where a paper is, who wrote it: the reference's PaperAt and author. -/
namespace Go.Proofs.YtjbaijgdkkccbaaGreatDoor
open Go.RowKit

def AnswersPap (P : Program) (g : FuncId) (caps : Array Value) (w : World) (p : Pap→Bool) : Prop :=
 ∀ (y : Pap) (aa : Option Addr) (ac : Nat) (ta : Option Addr) (tc : Nat) (wx : World),All w wx→Calls P g (#[.agg #[.string y.id,.string y.track,.string y.title,.slice aa y.authors.length ac,.slice ta y.topics.length tc]] ++ caps) wx fun e w'=>e = .returned (.bool (p y))∧All wx w'
set_option maxHeartbeats 1600000 in
theorem indexPap_any (g : FuncId) (caps : Array Value) (eg : ∀ args w,(callFunc g args).run Tryz.prog w = .ok (.enter g args) w) (p : Pap→Bool)
  (a : Option Addr) (len cap : Nat) (ss : List Pap) (w : World) (hs : Sl RPap 5 (fun _=>True) w a len ss) (hl : len≤1000000) (hp : AnswersPap Tryz.prog g caps w p) :
  Calls Tryz.prog 90 #[.slice a len cap,.func (.func g) #[] caps] w fun e w'=>e = .returned (.int .i64 (findG p 0 ss))∧All w w':=by
 have hlen:=hs.len;have HP:=Lib.hid hp;clear hp;(go_enter Tryz.func90,Tryz.ntmps90);(go_wp2);go_loopw [5,8] (fun _ i wr=>∃ k : Nat,k≤len∧i = .int .i64 k∧(ss.take k).any p = false∧All w wr) (fun _ i _=>len - (intOf i).toNat)
 case atStart=>exact ⟨0,Nat.zero_le _,rfl,by simp,Kept.refl _ _⟩
 case round =>
  obtain ⟨k,hk,rfl,hnot,hall⟩:=hrel;by_cases hlt : k < len
  ·obtain ⟨b,off,y,aa,ac,ta,tc,ha,-,c0,c1,c2,c3,c4,-,-,-,-,-,hy,htake⟩:=(hs.keep RPap.ok hall).atPap hlt;(have hltake : (ss.take k).length = k:=by simp; omega);(have hsplit : ss = ss.take k ++ y :: ss.drop (k+1):=by rw [← drop_at hy,List.take_append_drop]);have Hsplit:=Lib.hid hsplit;have Htake:=Lib.hid htake;have Hl:=Lib.hid hltake;have Hnot:=Lib.hid hnot;clear hsplit htake hltake hlen hnot hy;subst ha;clear hs
   cases hpy : p y with
   | true =>
    (have hfin : findG p 0 ss = k:=by rw [Hsplit.out,findG_append Hnot.out,Hl.out,findG,if_pos hpy]; simp);have Hfin:=Lib.hid hfin;clear hfin;(go_wp2_with fail);refine (HP.out y aa ac ta tc _ hall).mono ?_;rintro e w' ⟨rfl,hw⟩;rw [hpy];(go_wp2_with fail);go_ret;exact ⟨ret_int' Hfin.out.symm,hall.trans hw⟩
   | false =>
    (go_wp2_with fail);refine (HP.out y aa ac ta tc _ hall).mono ?_;rintro e w' ⟨rfl,hw⟩;rw [hpy];(go_wp2_with fail);go_roundw
    case rel=>exact ⟨k+1,by omega,by go_num,by rw [Htake.out,List.any_append,Hnot.out]; simp [hpy],hall.trans hw⟩
    case measure=>simp [intOf]; omega
  ·(have hd : decide ((k : Int) < (len : Int)) = false:=by simp; omega);have hfin : findG p 0 ss = -1:=findG_neg (by rw [List.take_of_length_le (by omega)] at hnot; exact hnot);have Hfin:=Lib.hid hfin;clear hfin;(go_wp2);go_ret;exact ⟨ret_int' Hfin.out.symm,hall⟩

theorem paperAt1_any (kp : Nat) (p : ByteArray) (y : Pap) (aa : Option Addr) (ac : Nat) (ta : Option Addr) (tc : Nat) (w : World) (ck : w.cell? ⟨kp,0,none⟩ = some (.string p)) :
  Calls Tryz.prog 91 #[.agg #[.string y.id,.string y.track,.string y.title,.slice aa y.authors.length ac,.slice ta y.topics.length tc],.pointer (some ⟨kp,0,none⟩)] w fun e w'=>e = .returned (.bool (isPap p y))∧All w w':=by
 have hkp:=lt_of_cell ck;dsimp only at hkp;have e1 : (y.id.toList == p.toList) = isPap p y:=by
  by_cases h : y.id = p
  ·simp [isPap,h]
  ·(have h2 : (y.id.toList == p.toList) = false:=by simp; exact fun e=>h (bytes_ext e));rw [h2]; simp [isPap,h]
 generalize isPap p y = b at e1 ⊢;(go_enter Tryz.func91,Tryz.ntmps91);(go_wp2_with fail);go_ret;exact ⟨rfl,Kept.alloc _ _ _⟩

theorem paperAt_any (a : Option Addr) (len cap : Nat) (xs : List Pap) (p : ByteArray) (w : World) (hs : Sl RPap 5 (fun _=>True) w a len xs) (hl : len≤1000000) :
  Calls Tryz.prog 32 #[.slice a len cap,.string p] w fun e w'=>e = .returned (.int .i64 (findG (isPap p) 0 xs))∧All w w':=by
 have hk1 : All w (w.alloc (.cells #[.string p] 9)):=Kept.alloc _ _ _;have ha:=heap_at w (.cells #[.string p] 9) _ rfl;have hans : AnswersPap Tryz.prog 91 #[.pointer (some ⟨w.heap.size,0,none⟩)] (w.alloc (.cells #[.string p] 9)) (isPap p):=fun y aa ac ta tc wx hwx =>
  paperAt1_any _ p y aa ac ta tc wx (hwx.cell (cell_at ha rfl) trivial)
 have eg : ∀ args w,(callFunc 91 args).run Tryz.prog w = .ok (.enter 91 args) w:=enters_of Tryz.func91 (by kernel_rfl) rfl;have HF:=Lib.hid (indexPap_any 91 _ eg (isPap p) a len cap xs _ (hs.keep RPap.ok hk1) hl hans);have hmf':=hmfC;clear hans eg ha hs;(go_enter Tryz.func32,Tryz.ntmps32);(go_wp2_with fail);refine HF.out.mono ?_;rintro e w2 ⟨rfl,hw2⟩;(go_wp2_with fail);go_ret;exact ⟨rfl,hk1.trans hw2⟩

theorem quietA {P : Program} {f : FuncId} {args : Array Value} {w : World} {n : Nat} {v : Value}
  (h : Calls P f args (w.drewN n) fun e w'=>e = .returned v∧w.drewN n = w') : Calls P f args (w.drewN n) fun e w''=>e = .returned v∧∃ m,w'' = w.drewN m :=
 h.mono fun _ _ ⟨he,hm⟩=>⟨he,n,hm.symm⟩

set_option maxRecDepth 100000 in
set_option maxHeartbeats 3200000 in
theorem author_any (a : Option Addr) (len cap : Nat) (xs : List Pap) (q : Pair2) (w : World) (hs : Sl RPap 5 (fun _=>True) w a len xs) (hl : len≤1000000) :
  Calls Tryz.prog 66 #[.slice a len cap,.agg #[.string q.paper,.string q.person]] w fun e w'=>e = .returned (.bool (authB xs q.paper q.person))∧All w w':=by
 have Hlen:=Lib.hid hs.len;have hk1 : All w (w.alloc (.cells #[.string q.paper,.string q.person] 39)):=Kept.alloc _ _ _;have hb:=heap_at w (.cells #[.string q.paper,.string q.person] 39) _ rfl;have d0:=cell_at (i:=0) hb rfl;have d1:=cell_at (i:=1) hb rfl;have HP:=Lib.hid (paperAt_any a len cap xs q.paper _ (hs.keep RPap.ok hk1) hl);have hsk:=hs.keep RPap.ok hk1;clear hb hs;rcases findG_find (p:=isPap q.paper) (xs:=xs) (k:=0) with ⟨hn,hf⟩ | ⟨i,x,hn,hf,hi⟩
 ·have HR:=Lib.hid (show authB xs q.paper q.person = false by rw [authB,papOf,hn]);clear hn hsk;(go_enter Tryz.func66,Tryz.ntmps66);(go_wp2_with fail);refine HP.out.mono ?_;rintro e w2 ⟨rfl,hw2⟩;rw [hf];have hwb:=hk1.trans hw2;clear hf;go_wp2_with fail
  go_quiet (fail)
  (go_wp2_with fail);go_ret;exact ⟨by rw [HR.out]; rfl,hwb.then_drewN _⟩
 ·have HR:=Lib.hid (show authB xs q.paper q.person = memB q.person x.authors by rw [authB,papOf,hn]);rw [Nat.zero_add] at hf;(have hil : i < len:=by have:=(List.getElem?_eq_some_iff.1 hi).1; have:=Hlen.out; omega);(have hi0 : decide ((0 : Int)≤(i : Int)) = true:=by simp);(have hi1 : (0 : Int)≤(i : Int):=by omega);(have hi2 : (i : Int) < (len : Int):=by omega);have HI:=Lib.hid hi;clear hn hi;(go_enter Tryz.func66,Tryz.ntmps66);(go_wp2_with fail);refine HP.out.mono ?_;rintro e w2 ⟨rfl,hw2⟩;rw [hf];have hwb:=hk1.trans hw2;obtain ⟨b,off,x',aa,ac,ta,tc,ha,-,c0,c1,c2,c3,c4,-,-,⟨-,-,-,hza,-⟩,hsa,-,hxi,-⟩:=(hsk.keep RPap.ok hw2).atPap (k:=i) hil;subst ha;obtain rfl : x' = x:=Option.some.inj (hxi.symm.trans HI.out);have e0:=hw2.cell d0 trivial;have e1:=hw2.cell d1 trivial;have HC:=Lib.hid (fun n=>quietA (n:=n) (contains_any aa x'.authors.length ac x'.authors q.person (w2.drewN n) (hsa.keep RStr.ok (Kept.drewN _ _ _)) (by omega)));clear hf hsk hxi hsa hk1 hw2 HP;go_wp2_with fail
  go_quiet (first | (go_at_call 67; with_reducible exact HC.out _))
  (go_wp2_with fail);go_ret;exact ⟨by rw [HR.out]; rfl,hwb.then_drewN _⟩

end Go.Proofs.YtjbaijgdkkccbaaGreatDoor

/- PaperForm and PaperForms. -/
namespace Go.Proofs.YtjbaijgdkkccbaaGreatDoor
open Go.RowKit

theorem behindB_last {p : Option ByteArray} {s : ByteArray} (h : isKeyB s = true) : behindB p s = leB s (p.getD ByteArray.empty):=by
 cases p with
 | some q=>rfl
 | none =>
  have h1 : isKey s:=by
   by_cases hn : isKey s
   ·exact hn
   ·rw [isKeyB_false hn] at h; cases h
  have h0 : s.toList≠[]:=toList_ne (by have:=h1.2.1; omega);have he : (ByteArray.empty).toList = []:=toList_nil rfl;simp only [behindB,Option.getD_none,leB,he]
  cases hs : s.toList with
  | nil=>exact absurd hs h0
  | cons a l=>rfl
theorem paperForms1_any (s : ByteArray) (w : World) (hs : s.size≤1000000) :
  Calls Tryz.prog 204 #[.string s] w fun e w'=>e = .returned (.int .i64 (if isKeyB s = true then 0 else 5))∧All w w':=by
 cases hk : isKeyB s with
 | false =>
  (go_enter Tryz.func204,Tryz.ntmps204);(go_wp2_with fail);refine (key_any s _ hs).mono ?_;rintro e w2 ⟨rfl,hw2⟩;rw [hk];(go_wp2_with fail);go_ret;exact ⟨rfl,hw2⟩
 | true =>
  (go_enter Tryz.func204,Tryz.ntmps204);(go_wp2_with fail);refine (key_any s _ hs).mono ?_;rintro e w2 ⟨rfl,hw2⟩;rw [hk];(go_wp2_with fail);go_ret;exact ⟨rfl,hw2⟩

set_option maxRecDepth 100000 in
set_option maxHeartbeats 6400000 in
theorem paperForm_any (p : Pap) (prev : Option ByteArray) (aa : Option Addr) (ac : Nat) (ta : Option Addr) (tc : Nat) (w : World) (hsm : PapSmall p) (hac : p.authors.length≤ac) (hsa : Sl RStr 1 (fun _=>True) w aa p.authors.length p.authors) (hst : Sl RStr 1 (fun _=>True) w ta p.topics.length p.topics) (hg : Glob w) :
  Calls Tryz.prog 203 #[.agg #[.string p.id,.string p.track,.string p.title,.slice aa p.authors.length ac,.slice ta p.topics.length tc],.string (prev.getD ByteArray.empty),.func (.func 204) #[] #[]] w fun e w'=>e = .returned (.int .i64 (papF prev p))∧All w w':=by
 obtain ⟨pid,trk,ttl,aus,tps⟩:=p;obtain ⟨hz1,hz2,hz3,hz4,hz5⟩:=hsm;dsimp only at *;obtain ⟨la,hla⟩ : ∃ m,m = aus.length:=⟨_,rfl⟩;obtain ⟨lt,hlt⟩ : ∃ m,m = tps.length:=⟨_,rfl⟩;obtain ⟨lv,hlv⟩ : ∃ v,v = prev.getD ByteArray.empty:=⟨_,rfl⟩;have HLA:=Lib.hid hla;have HLT:=Lib.hid hlt;have HLV:=Lib.hid hlv;rw [← hla] at hsa hac hz4 ⊢;rw [← hlt] at hst hz5 ⊢;rw [← hlv];clear hla hlt hlv;have hk1 : All w (w.alloc (.cells #[.string pid,.string trk,.string ttl,.slice aa la ac,.slice ta lt tc] 128)):=Kept.alloc _ _ _;have hblk:=heap_at w (.cells #[.string pid,.string trk,.string ttl,.slice aa la ac,.slice ta lt tc] 128) _ rfl;have e0:=cell_at (i:=0) hblk rfl;have e1:=cell_at (i:=1) hblk rfl;have e2:=cell_at (i:=2) hblk rfl;have e3:=cell_at (i:=3) hblk rfl;have e4:=cell_at (i:=4) hblk rfl;have HSA:=Lib.hid (fun (wx : World) (k : All w wx)=>hsa.keep RStr.ok k);have HST:=Lib.hid (fun (wx : World) (k : All w wx)=>hst.keep RStr.ok k);have HG:=Lib.hid (fun (wx : World) (k : All w wx)=>hg.keep k);have eg : ∀ args w,(callFunc 204 args).run Tryz.prog w = .ok (.enter 204 args) w:=enters_of Tryz.func204 (by kernel_rfl) rfl;clear hblk hsa hst hg;go_enter Tryz.func203,Tryz.ntmps203
 go_upto_block 0 with fail
 go_cut [] (fun wx=>papF prev ⟨pid,trk,ttl,aus,tps⟩ = (if orderG [] aus≠0 then orderG [] aus else if 100 < tps.length then 2 else riseF none tps)∧wx.cell? ⟨w.heap.size,3,none⟩ = some (.slice aa la ac)∧wx.cell? ⟨w.heap.size,4,none⟩ = some (.slice ta lt tc)∧All w wx)
 case first =>
  cases h1 : isKeyB pid with
  | false =>
   have hfin:=Lib.hid (show papF prev ⟨pid,trk,ttl,aus,tps⟩ = 5 from papF_name (Or.inl h1));(go_wp2_with fail);refine (key_any pid _ hz1).mono ?_;rintro e w2 ⟨rfl,hw2⟩;rw [h1];(go_wp2_with fail);go_ret;exact ⟨ret_int' hfin.out.symm,hk1.trans hw2⟩
  | true =>
   cases h2 : isKeyB trk with
   | false =>
    have hfin:=Lib.hid (show papF prev ⟨pid,trk,ttl,aus,tps⟩ = 5 from papF_name (Or.inr h2));(go_wp2_with fail);refine (key_any pid _ hz1).mono ?_;rintro e w2 ⟨rfl,hw2⟩;rw [h1];have f0:=hw2.cell e0 trivial;have f1:=hw2.cell e1 trivial;have f2:=hw2.cell e2 trivial;have f3:=hw2.cell e3 trivial;have f4:=hw2.cell e4 trivial;have hwa:=hk1.trans hw2;clear e0 e1 e2 e3 e4;(go_wp2_with fail);refine (key_any trk _ hz2).mono ?_;rintro e w3 ⟨rfl,hw3⟩;rw [h2];(go_wp2_with fail);go_ret;exact ⟨ret_int' hfin.out.symm,hwa.trans hw3⟩
   | true =>
    have hob:=behindB_last (p:=prev) h1;rw [← HLV.out] at hob
    cases h3 : leB pid lv with
    | true =>
     have h3' : (Op.bytesLess pid.toList lv.toList || pid.toList == lv.toList) = true:=h3;have hfin:=Lib.hid (show papF prev ⟨pid,trk,ttl,aus,tps⟩ = 7 from papF_order h1 h2 (hob.trans h3));clear hob h3;(go_wp2_with fail);refine (key_any pid _ hz1).mono ?_;rintro e w2 ⟨rfl,hw2⟩;rw [h1];have f0:=hw2.cell e0 trivial;have f1:=hw2.cell e1 trivial;have f2:=hw2.cell e2 trivial;have f3:=hw2.cell e3 trivial;have f4:=hw2.cell e4 trivial;have hwa:=hk1.trans hw2;clear e0 e1 e2 e3 e4;(go_wp2_with fail);refine (key_any trk _ hz2).mono ?_;rintro e w3 ⟨rfl,hw3⟩;rw [h2];have g0:=hw3.cell f0 trivial;have g1:=hw3.cell f1 trivial;have g2:=hw3.cell f2 trivial;have g3:=hw3.cell f3 trivial;have g4:=hw3.cell f4 trivial;have hwb:=hwa.trans hw3;clear hw2 hwa f0 f1 f2 f3 f4;(go_wp2_with fail);go_ret;exact ⟨ret_int' hfin.out.symm,hwb⟩
    | false =>
     have h3' : (Op.bytesLess pid.toList lv.toList || pid.toList == lv.toList) = false:=h3;have HB:=Lib.hid (hob.trans h3);clear hob h3
     cases h4 : lineB ttl 200 with
     | false =>
      have hfin:=Lib.hid (show papF prev ⟨pid,trk,ttl,aus,tps⟩ = 3 from papF_form h1 h2 HB.out (Or.inl h4));(go_wp2_with fail);refine (key_any pid _ hz1).mono ?_;rintro e w2 ⟨rfl,hw2⟩;rw [h1];have f0:=hw2.cell e0 trivial;have f1:=hw2.cell e1 trivial;have f2:=hw2.cell e2 trivial;have f3:=hw2.cell e3 trivial;have f4:=hw2.cell e4 trivial;have hwa:=hk1.trans hw2;clear e0 e1 e2 e3 e4;(go_wp2_with fail);refine (key_any trk _ hz2).mono ?_;rintro e w3 ⟨rfl,hw3⟩;rw [h2];have g0:=hw3.cell f0 trivial;have g1:=hw3.cell f1 trivial;have g2:=hw3.cell f2 trivial;have g3:=hw3.cell f3 trivial;have g4:=hw3.cell f4 trivial;have hwb:=hwa.trans hw3;clear hw2 hwa f0 f1 f2 f3 f4;(go_wp2_with fail);refine (named_any ttl 200 _ hz3 (HG.out _ hwb)).mono ?_;rintro e w4 ⟨rfl,hw4⟩;rw [h4];(go_wp2_with fail);go_ret;exact ⟨ret_int' hfin.out.symm,hwb.trans hw4⟩
     | true =>
      have HH1:=Lib.hid h1;have HH2:=Lib.hid h2;have HH4:=Lib.hid h4;by_cases h5 : la = 0
      ·(have h5' : ((la : Int) == 0) = true:=by simp [h5]);have hfin:=Lib.hid (show papF prev ⟨pid,trk,ttl,aus,tps⟩ = 3 from papF_form h1 h2 HB.out (Or.inr (by have:=HLA.out; show aus.length = 0; omega)));clear h5;(go_wp2_with fail);refine (key_any pid _ hz1).mono ?_;rintro e w2 ⟨rfl,hw2⟩;rw [h1];have f0:=hw2.cell e0 trivial;have f1:=hw2.cell e1 trivial;have f2:=hw2.cell e2 trivial;have f3:=hw2.cell e3 trivial;have f4:=hw2.cell e4 trivial;have hwa:=hk1.trans hw2;clear e0 e1 e2 e3 e4;(go_wp2_with fail);refine (key_any trk _ hz2).mono ?_;rintro e w3 ⟨rfl,hw3⟩;rw [h2];have g0:=hw3.cell f0 trivial;have g1:=hw3.cell f1 trivial;have g2:=hw3.cell f2 trivial;have g3:=hw3.cell f3 trivial;have g4:=hw3.cell f4 trivial;have hwb:=hwa.trans hw3;clear hw2 hwa f0 f1 f2 f3 f4;(go_wp2_with fail);refine (named_any ttl 200 _ hz3 (HG.out _ hwb)).mono ?_;rintro e w4 ⟨rfl,hw4⟩;rw [h4];have m0:=hw4.cell g0 trivial;have m1:=hw4.cell g1 trivial;have m2:=hw4.cell g2 trivial;have m3:=hw4.cell g3 trivial;have m4:=hw4.cell g4 trivial;have hwc:=hwb.trans hw4;clear hw3 hwb g0 g1 g2 g3 g4;(go_wp2_with fail);go_ret;exact ⟨ret_int' hfin.out.symm,hwc⟩
      ·(have h5' : ((la : Int) == 0) = false:=by simp; omega);have HGD:=Lib.hid (papF_good (prev:=prev) (p:=⟨pid,trk,ttl,aus,tps⟩) h1 h2 HB.out h4 (by have:=HLA.out; show aus.length≠0; omega));by_cases h6 : 20 < la
       ·(have h6' : decide ((20 : Int) < (la : Int)) = true:=by simp; omega);have hfin:=Lib.hid (show papF prev ⟨pid,trk,ttl,aus,tps⟩ = 2 from HGD.out.trans (if_pos (by have:=HLA.out; show 20 < aus.length; omega)));clear h5 h6;(go_wp2_with fail);refine (key_any pid _ hz1).mono ?_;rintro e w2 ⟨rfl,hw2⟩;rw [h1];have f0:=hw2.cell e0 trivial;have f1:=hw2.cell e1 trivial;have f2:=hw2.cell e2 trivial;have f3:=hw2.cell e3 trivial;have f4:=hw2.cell e4 trivial;have hwa:=hk1.trans hw2;clear e0 e1 e2 e3 e4;(go_wp2_with fail);refine (key_any trk _ hz2).mono ?_;rintro e w3 ⟨rfl,hw3⟩;rw [h2];have g0:=hw3.cell f0 trivial;have g1:=hw3.cell f1 trivial;have g2:=hw3.cell f2 trivial;have g3:=hw3.cell f3 trivial;have g4:=hw3.cell f4 trivial;have hwb:=hwa.trans hw3;clear hw2 hwa f0 f1 f2 f3 f4;(go_wp2_with fail);refine (named_any ttl 200 _ hz3 (HG.out _ hwb)).mono ?_;rintro e w4 ⟨rfl,hw4⟩;rw [h4];have m0:=hw4.cell g0 trivial;have m1:=hw4.cell g1 trivial;have m2:=hw4.cell g2 trivial;have m3:=hw4.cell g3 trivial;have m4:=hw4.cell g4 trivial;have hwc:=hwb.trans hw4;clear hw3 hwb g0 g1 g2 g3 g4;(go_wp2_with fail);go_ret;exact ⟨ret_int' hfin.out.symm,hwc⟩
       ·(have h6' : decide ((20 : Int) < (la : Int)) = false:=by simp; omega);have HRE:=Lib.hid (HGD.out.trans (if_neg (by have:=HLA.out; show ¬ 20 < aus.length; omega)));clear h5 h6;(go_wp2_with fail);refine (key_any pid _ hz1).mono ?_;rintro e w2 ⟨rfl,hw2⟩;rw [h1];have f0:=hw2.cell e0 trivial;have f1:=hw2.cell e1 trivial;have f2:=hw2.cell e2 trivial;have f3:=hw2.cell e3 trivial;have f4:=hw2.cell e4 trivial;have hwa:=hk1.trans hw2;clear e0 e1 e2 e3 e4;(go_wp2_with fail);refine (key_any trk _ hz2).mono ?_;rintro e w3 ⟨rfl,hw3⟩;rw [h2];have g0:=hw3.cell f0 trivial;have g1:=hw3.cell f1 trivial;have g2:=hw3.cell f2 trivial;have g3:=hw3.cell f3 trivial;have g4:=hw3.cell f4 trivial;have hwb:=hwa.trans hw3;clear hw2 hwa f0 f1 f2 f3 f4;(go_wp2_with fail);refine (named_any ttl 200 _ hz3 (HG.out _ hwb)).mono ?_;rintro e w4 ⟨rfl,hw4⟩;rw [h4];have m0:=hw4.cell g0 trivial;have m1:=hw4.cell g1 trivial;have m2:=hw4.cell g2 trivial;have m3:=hw4.cell g3 trivial;have m4:=hw4.cell g4 trivial;have hwc:=hwb.trans hw4;clear hw3 hwb g0 g1 g2 g3 g4;(go_wp2_with fail);go_meet;exact ⟨HRE.out,m3,m4,hwc⟩
 case rest =>
  obtain ⟨hre,m3,m4,hwc⟩:=hcut;obtain ⟨wd,rfl⟩ : ∃ x : World,x = wc:=⟨_,rfl⟩;have HRE:=Lib.hid hre;clear hre e0 e1 e2 e3 e4 hk1;have hosd:=HSA.out wd hwc;(go_wp2_with fail);go_loopw [45] (fun i wr=>∃ j : Nat,j≤la∧i = .int .i64 j∧OrderAt aus j∧wr.cell? ⟨w.heap.size,3,none⟩ = some (.slice aa la ac)∧wr.cell? ⟨w.heap.size,4,none⟩ = some (.slice ta lt tc)∧All wd wr) (fun i _=>la - (intOf i).toNat)
  case atStart=>exact ⟨0,Nat.zero_le _,rfl,OrderAt.zero _,m3,m4,Kept.refl _ _⟩
  case round =>
   obtain ⟨j,hj,rfl,hoat,c3,c4,hwi⟩:=hrel;obtain ⟨wi,rfl⟩ : ∃ wi : World,wi = wr:=⟨_,rfl⟩;have HO:=Lib.hid hoat
   clear hoat m3 m4;by_cases hjl : j < la
   ·have hsk:=hosd.keep RStr.ok hwi;obtain ⟨b5,off5,y,ha5,-,d0,hzy,hy,-,hty⟩:=hsk.atStr hjl;subst ha5;have HY:=Lib.hid hy;have HSL:=Lib.hid (fun (wx : World) (h : All wi wx)=>(hsk.keep RStr.ok h).take (k:=j) (by omega));have HP1:=Lib.hid (fun (wx : World)=>paperForms1_any y wx hzy);clear hy hty hosd hsk
    cases hky : isKeyB y with
    | false =>
     have hfin:=Lib.hid (HRE.out.trans ((if_pos (by rw [HO.out.name HY.out hky]; decide)).trans (HO.out.name HY.out hky)));rw [hky,if_neg (by decide)] at HP1;(go_wp2_with fail);refine (HP1.out _).mono ?_;rintro e w4 ⟨rfl,hw4⟩;(go_wp2_with fail);go_ret;exact ⟨ret_int' hfin.out.symm,hwc.trans (hwi.trans hw4)⟩
    | true =>
     have HKY:=Lib.hid hky;rw [hky,if_pos rfl] at HP1
     cases hme : memB y (aus.take j) with
     | true =>
      have hfin:=Lib.hid (HRE.out.trans ((if_pos (by rw [HO.out.twice HY.out HKY.out hme]; decide)).trans (HO.out.twice HY.out HKY.out hme)));(go_wp2_with fail);refine (HP1.out _).mono ?_;rintro e w4 ⟨rfl,hw4⟩;have c3':=hw4.cell c3 trivial;have hwj:=hwi.trans hw4;(go_wp2_with fail);refine (contains_any _ j ac (aus.take j) y _ (HSL.out _ hw4) (by omega)).mono ?_;rintro e w5 ⟨rfl,hh⟩;subst hh;rw [hme];(go_wp2_with fail);go_ret;exact ⟨ret_int' hfin.out.symm,hwc.trans hwj⟩
     | false =>
      have HNX:=Lib.hid (HO.out.next HY.out HKY.out hme);(go_wp2_with fail);refine (HP1.out _).mono ?_;rintro e w4 ⟨rfl,hw4⟩;have c3':=hw4.cell c3 trivial;have c4':=hw4.cell c4 trivial;have hwj:=hwi.trans hw4;(go_wp2_with fail);refine (contains_any _ j ac (aus.take j) y _ (HSL.out _ hw4) (by omega)).mono ?_;rintro e w5 ⟨rfl,hh⟩;subst hh;rw [hme];(go_wp2_with fail);go_roundw
      case rel=>exact ⟨j+1,by omega,by go_num,HNX.out,c3',c4',hwj⟩
      case measure=>simp [intOf]; omega
   ·(have hdj : decide ((j : Int) < (la : Int)) = false:=by simp; omega);have HR2:=Lib.hid (HRE.out.trans (if_neg (by rw [HO.out.ok (by have:=HLA.out; omega)]; simp)));have hwe:=hwc.trans hwi;clear hosd hwc hwi c3;by_cases h100 : 100 < lt
    ·(have hd : decide ((100 : Int) < (lt : Int)) = true:=by simp; omega);have hfin:=Lib.hid (HR2.out.trans (if_pos (by have:=HLT.out; show 100 < tps.length; omega)));(go_wp2_with fail);go_ret;exact ⟨ret_int' hfin.out.symm,hwe⟩
    ·(have hd : decide ((100 : Int) < (lt : Int)) = false:=by simp; omega);have hfin:=Lib.hid (HR2.out.trans (if_neg (by have:=HLT.out; show ¬ 100 < tps.length; omega)));(go_wp2_with fail);refine (rising_any ta lt tc tps _ (HST.out _ hwe) (by omega)).mono ?_;rintro e w5 ⟨rfl,hw5⟩;(go_wp2_with fail);go_ret;exact ⟨ret_int' hfin.out.symm,hwe.trans hw5⟩

set_option maxRecDepth 100000 in
set_option maxHeartbeats 6400000 in
theorem paperForms_any (a : Option Addr) (len cap : Nat) (xs : List Pap) (w : World) (hs : Sl RPap 5 (fun _=>True) w a len xs) (hl : len≤1000000) (hg : Glob w) :
  Calls Tryz.prog 134 #[.slice a len cap] w fun e w'=>e = .returned (.int .i64 (papersF xs))∧All w w':=by
 have Hlen:=Lib.hid hs.len;have HG:=Lib.hid (fun (wx : World) (k : All w wx)=>hg.keep k);clear hg;by_cases hbig : 400 < len
 ·have hfin:=Lib.hid (papersF_large (xs:=xs) (by have:=Hlen.out; omega));(have hd : decide ((400 : Int) < (len : Int)) = true:=by simp; omega);clear hs;(go_enter Tryz.func134,Tryz.ntmps134);(go_wp2_with fail);go_ret;exact ⟨ret_int' hfin.out.symm,Kept.refl _ _⟩
 have hfin:=Lib.hid (papersF_some (xs:=xs) (by have:=Hlen.out; omega));(have hd : decide ((400 : Int) < (len : Int)) = false:=by simp; omega);(go_enter Tryz.func134,Tryz.ntmps134);(go_wp2_with fail);go_loopw [3,12] (fun lv i wr=>∃ k : Nat,k≤len∧i = .int .i64 k∧lv = .string ((lastId (xs.take k)).getD ByteArray.empty)∧PapAt xs k∧All w wr) (fun _ i _=>len - (intOf i).toNat)
 case atStart=>exact ⟨0,Nat.zero_le _,rfl,by rw [lastId_zero]; rfl,PapAt.zero _,Kept.refl _ _⟩
 case round =>
  obtain ⟨k,hk,rfl,rfl,hat,hwr⟩:=hrel;obtain ⟨wo,rfl⟩ : ∃ wo : World,wo = wr:=⟨_,rfl⟩;have HA:=Lib.hid hat
  obtain ⟨lp,hlp⟩ : ∃ z,z = lastId (xs.take k):=⟨_,rfl⟩;have HLP:=Lib.hid hlp;rw [← hlp];clear hat hlp;by_cases hlt : k < len
  ·obtain ⟨b,off,x,aa,ac,ta,tc,ha,-,c0,c1,c2,c3,c4,hac,-,hsm,hsa,hst,hx,-⟩:=(hs.keep RPap.ok hwr).atPap hlt;subst ha;have Hx:=Lib.hid hx;have hko : All wo (wo.alloc (.cells #[.string x.id,.string x.track,.string x.title,.slice aa x.authors.length ac,.slice ta x.topics.length tc] 128)):=Kept.alloc _ _ _;have hwa:=hwr.then_alloc (.cells #[.string x.id,.string x.track,.string x.title,.slice aa x.authors.length ac,.slice ta x.topics.length tc] 128);have hblk:=heap_at wo (.cells #[.string x.id,.string x.track,.string x.title,.slice aa x.authors.length ac,.slice ta x.topics.length tc] 128) _ rfl;have e0:=cell_at (i:=0) hblk rfl;have e1:=cell_at (i:=1) hblk rfl;have e2:=cell_at (i:=2) hblk rfl;have e3:=cell_at (i:=3) hblk rfl;have e4:=cell_at (i:=4) hblk rfl;have HF:=Lib.hid (paperForm_any x lp aa ac ta tc _ hsm hac (hsa.keep RStr.ok hko) (hst.keep RStr.ok hko) (HG.out _ hwa));obtain ⟨z,hz⟩ : ∃ z,z = papF lp x:=⟨_,rfl⟩;have HZ:=Lib.hid hz;rw [← hz] at HF;clear hx hblk hsm hac hsa hst hs hz hko;by_cases hz0 : z = 0
   ·subst hz0;have HNX:=Lib.hid (HA.out.next Hx.out (by rw [← HLP.out]; exact HZ.out.symm));(go_wp2_with fail);refine HF.out.mono ?_;rintro e w2 ⟨rfl,hw2⟩;have f0:=hw2.cell e0 trivial;have hwb:=hwa.trans hw2;clear hwa hw2 HF;(go_wp2_with fail);go_roundw
    case rel=>exact ⟨k+1,by omega,by go_num,by rw [lastId_succ Hx.out]; rfl,HNX.out,hwb⟩
    case measure=>simp [intOf]; omega
   ·(have hz1 : (z == 0) = false:=by simpa using hz0);have hbad:=Lib.hid (HA.out.bad Hx.out (by rw [← HLP.out]; exact HZ.out.symm) hz0);(go_wp2_with fail);refine HF.out.mono ?_;rintro e w2 ⟨rfl,hw2⟩;(go_wp2_with fail);go_ret;exact ⟨ret_int' (by rw [hfin.out]; exact hbad.out.symm),hwa.trans hw2⟩
  ·(have hdk : decide ((k : Int) < (len : Int)) = false:=by simp; omega);(go_wp2_with fail);go_ret;exact ⟨ret_int' (by rw [hfin.out]; exact (HA.out.ok (by have:=Hlen.out; omega)).symm),hwr⟩

end Go.Proofs.YtjbaijgdkkccbaaGreatDoor

/- SetupFault answers setupF. -/
namespace Go.Proofs.YtjbaijgdkkccbaaGreatDoor
open Go.RowKit

theorem setup1_any (bb : Nat) (v1 v2 v3 v4 : Value) (due rep : Int) (a : Option Addr) (len cap : Nat) (xs : List Qst) (w : World) (hb : SetAt bb (.slice a len cap) v1 v2 v3 v4 due rep w) (hs : Sl RQst 6 (fun _=>True) w a len xs) (hl : len≤1000000) :
  Calls Tryz.prog 132 #[.pointer (some ⟨bb,0,none⟩)] w fun e w'=>e = .returned (.int .i64 (sheetF xs))∧All w w':=by
 have hI:=Lib.hid (sheetFault_any a len cap xs w hs hl);have cc:=hb.1;clear hs hb;(go_enter Tryz.func132,Tryz.ntmps132);(go_wp2_with fail);refine hI.out.mono ?_;rintro e w' ⟨rfl,hw⟩;(go_wp2_with fail);go_ret;exact ⟨rfl,hw⟩
theorem setup2_any (bb : Nat) (v0 v2 v3 v4 : Value) (due rep : Int) (a : Option Addr) (len cap : Nat) (xs : List Pap) (w : World) (hb : SetAt bb v0 (.slice a len cap) v2 v3 v4 due rep w) (hs : Sl RPap 5 (fun _=>True) w a len xs) (hl : len≤1000000) (hg : Glob w) :
  Calls Tryz.prog 133 #[.pointer (some ⟨bb,0,none⟩)] w fun e w'=>e = .returned (.int .i64 (papersF xs))∧All w w':=by
 have hI:=Lib.hid (paperForms_any a len cap xs w hs hl hg);have cc:=hb.2.1;clear hs hb;(go_enter Tryz.func133,Tryz.ntmps133);(go_wp2_with fail);refine hI.out.mono ?_;rintro e w' ⟨rfl,hw⟩;(go_wp2_with fail);go_ret;exact ⟨rfl,hw⟩
set_option maxRecDepth 100000 in
set_option maxHeartbeats 12800000 in
theorem setupFault_any (a0 : Option Addr) (l0 c0 : Nat) (a1 : Option Addr) (l1 c1 : Nat) (a2 : Option Addr) (l2 c2 : Nat) (a3 : Option Addr) (l3 c3 : Nat) (a4 : Option Addr) (l4 c4 : Nat) (s : Set7) (w : World) (h : SetIs (fun _=>True) w a0 l0 a1 l1 a2 l2 a3 l3 a4 l4 s) (hg : Glob w) :
  Calls Tryz.prog 54 #[.agg #[.slice a0 l0 c0,.slice a1 l1 c1,.slice a2 l2 c2,.slice a3 l3 c3,.slice a4 l4 c4,.int .i64 s.due,.int .i64 s.reply]] w fun e w'=>e = .returned (.int .i64 (setupF s))∧All w w':=by
 have hk1 : All w (w.alloc (.cells #[.slice a0 l0 c0,.slice a1 l1 c1,.slice a2 l2 c2,.slice a3 l3 c3,.slice a4 l4 c4,.int .i64 s.due,.int .i64 s.reply] 31)):=Kept.alloc _ _ _;have hblk:=heap_at w (.cells #[.slice a0 l0 c0,.slice a1 l1 c1,.slice a2 l2 c2,.slice a3 l3 c3,.slice a4 l4 c4,.int .i64 s.due,.int .i64 s.reply] 31) _ rfl;have hB : SetAt w.heap.size (.slice a0 l0 c0) (.slice a1 l1 c1) (.slice a2 l2 c2) (.slice a3 l3 c3) (.slice a4 l4 c4) s.due s.reply (w.alloc (.cells #[.slice a0 l0 c0,.slice a1 l1 c1,.slice a2 l2 c2,.slice a3 l3 c3,.slice a4 l4 c4,.int .i64 s.due,.int .i64 s.reply] 31)):=⟨cell_at (i:=0) hblk rfl,cell_at (i:=1) hblk rfl,cell_at (i:=2) hblk rfl,cell_at (i:=3) hblk rfl,cell_at (i:=4) hblk rfl,cell_at (i:=5) hblk rfl,cell_at (i:=6) hblk rfl⟩;have HI:=Lib.hid (h.keep hk1);have HG:=Lib.hid (hg.keep hk1);obtain ⟨bb,hbb⟩ : ∃ b,b = w.heap.size:=⟨_,rfl⟩;have Hbb:=Lib.hid hbb;rw [← hbb] at hB;have hEG1:=Lib.hid (enters_of Tryz.func132 (by kernel_rfl) rfl : ∀ args w,(callFunc 132 args).run Tryz.prog w = .ok (.enter 132 args) w);have hEG2:=Lib.hid (enters_of Tryz.func133 (by kernel_rfl) rfl : ∀ args w,(callFunc 133 args).run Tryz.prog w = .ok (.enter 133 args) w);clear hbb hblk h hg;obtain ⟨er,her⟩ : ∃ e,e = setupF s:=⟨_,rfl⟩;have HER:=Lib.hid her;rw [← her];clear her;(go_enter Tryz.func54,Tryz.ntmps54);obtain ⟨e0,e1,e2,e3,e4,e5,e6⟩:=hB;have hm2:=HI.out.n2;have hm3:=HI.out.n3;have hm4:=HI.out.n4;have Hsz:=Lib.hid (show w.heap.size+1 = (w.alloc (.cells #[.slice a0 l0 c0,.slice a1 l1 c1,.slice a2 l2 c2,.slice a3 l3 c3,.slice a4 l4 c4,.int .i64 s.due,.int .i64 s.reply] 31)).heap.size by simp);(go_wp2_with fail);simp only [Hsz.out];simp only [← Hbb.out];have HB:=Lib.hid (show SetAt bb (.slice a0 l0 c0) (.slice a1 l1 c1) (.slice a2 l2 c2) (.slice a3 l3 c3) (.slice a4 l4 c4) s.due s.reply (w.alloc (.cells #[.slice a0 l0 c0,.slice a1 l1 c1,.slice a2 l2 c2,.slice a3 l3 c3,.slice a4 l4 c4,.int .i64 s.due,.int .i64 s.reply] 31)) from ⟨e0,e1,e2,e3,e4,e5,e6⟩);clear Hbb Hsz e0 e1 e2 e3 e4 e5 e6;generalize w.alloc (.cells #[.slice a0 l0 c0,.slice a1 l1 c1,.slice a2 l2 c2,.slice a3 l3 c3,.slice a4 l4 c4,.int .i64 s.due,.int .i64 s.reply] 31) = w1 at *;have hka : All w1 (w1.alloc (.cells #[.func (.func 132) #[] #[.pointer (some ⟨bb,0,none⟩)],.func (.func 133) #[] #[.pointer (some ⟨bb,0,none⟩)]] 193)):=Kept.alloc _ _ _;have hfb:=heap_at w1 (.cells #[.func (.func 132) #[] #[.pointer (some ⟨bb,0,none⟩)],.func (.func 133) #[] #[.pointer (some ⟨bb,0,none⟩)]] 193) _ rfl;obtain ⟨er2,her2⟩ : ∃ e,e = two (sheetF s.sheet) (papersF s.papers):=⟨_,rfl⟩;have HE2:=Lib.hid her2;refine (first2_any _ _ #[.pointer (some ⟨bb,0,none⟩)] hEG1.out hEG2.out w1.heap.size _ (cell_at (i:=0) hfb rfl) (cell_at (i:=1) hfb rfl) (sheetF s.sheet) (papersF s.papers)
   (fun wx k=>setup1_any bb _ _ _ _ _ _ a0 l0 c0 s.sheet wx (HB.out.keep (hka.trans k)) (HI.out.keep (hka.trans k)).sheet (by have:=HI.out.n0; omega))
   (fun wx k=>setup2_any bb _ _ _ _ _ _ a1 l1 c1 s.papers wx (HB.out.keep (hka.trans k)) (HI.out.keep (hka.trans k)).papers (by have:=HI.out.n1; omega) (HG.out.keep (hka.trans k)))).mono ?_
 rintro e w2 ⟨rfl,hw2⟩;have hall2:=hka.trans hw2;rw [← her2];clear her2 hfb hka hw2 hEG1 hEG2;by_cases hf0 : er2 = 0
 case neg =>
  (have hne : (er2 != 0) = true:=by simpa using hf0);have hfin:=Lib.hid (show er = er2 from by
   rw [HER.out];have h:=HE2.out;unfold two at h;by_cases h1 : sheetF s.sheet = 0
   ·rw [if_neg (by simp [h1])] at h;exact (setupF_2 h1 (by rw [← h]; exact hf0)).trans h.symm
   ·rw [if_pos h1] at h;exact (setupF_1 h1).trans h.symm)
  clear hf0;(go_wp2_with fail);go_ret;exact ⟨ret_int' hfin.out.symm,hk1.trans hall2⟩
 case pos =>
  subst hf0;have hP1 : sheetF s.sheet = 0:=by
   have h:=HE2.out;unfold two at h;split at h
   ·rename_i h1; exact absurd h.symm h1
   ·rename_i h1; simpa using h1
  have P1:=Lib.hid hP1;have P2:=Lib.hid (show papersF s.papers = 0 from by
   have h:=HE2.out;rw [two,if_neg (by simp [hP1])] at h;exact h.symm)
  clear hP1 HE2;obtain ⟨e0,e1,e2,e3,e4,e5,e6⟩:=HB.out.keep hall2;(go_wp2_with fail);have h13 : All w1 (w2.alloc (.cells #[.slice a2 l2 c2,.slice a3 l3 c3] 28)):=hall2.then_alloc _;have hrow:=heap_at w2 (.cells #[.slice a2 l2 c2,.slice a3 l3 c3] 28) _ rfl;have HR0:=Lib.hid (cell_at (i:=0) hrow rfl);have HR1:=Lib.hid (cell_at (i:=1) hrow rfl);clear hrow hall2 e0 e1 e2 e3 e4 e5 e6;generalize w2.alloc (.cells #[.slice a2 l2 c2,.slice a3 l3 c3] 28) = w3 at *;have hk3:=hk1.trans h13;have HI3:=Lib.hid (HI.out.keep h13);have HB3:=Lib.hid (HB.out.keep h13);clear HI HB HG hk1 h13;go_loopw [25] (fun i wr=>∃ k : Nat,k≤2∧i = .int .i64 k∧(1≤k→listF s.papers s.pairs = 0)∧(2≤k→listF s.papers s.barred = 0)∧All w3 wr) (fun i _=>2 - (intOf i).toNat)
  case atStart=>exact ⟨0,by omega,rfl,fun h=>absurd h (by omega),fun h=>absurd h (by omega),Kept.refl _ _⟩
  case round =>
   obtain ⟨k,hk,rfl,h1,h2,hall⟩:=hrel;obtain ⟨wo,rfl⟩ : ∃ wo : World,wo = wr:=⟨_,rfl⟩;have H1:=Lib.hid h1;have H2:=Lib.hid h2;clear h1 h2;(have h3 : k = 0∨k = 1∨k = 2:=by omega);rcases h3 with rfl | rfl | rfl
   ·skip
    have rw0:=hall.cell HR0.out trivial;obtain ⟨f,hf⟩ : ∃ f,f = pairsF s.pairs:=⟨_,rfl⟩;have HF:=Lib.hid hf;clear hf;(go_wp2_with fail);refine (pairsFault_any a2 l2 c2 s.pairs _ (HI3.out.keep hall).pairs HI3.out.n2).mono ?_;rintro e w4 ⟨rfl,hw4⟩;have hall4:=hall.trans hw4;rw [← HF.out];by_cases hf0 : f = 0
    ·subst hf0;clear hall hw4;(go_wp2_with fail);go_loopw [36] (fun i wq=>∃ j : Nat,j≤l2∧i = .int .i64 j∧knownB s.papers (s.pairs.take j) = true∧All w3 wq) (fun i _=>l2 - (intOf i).toNat)
     case atStart=>exact ⟨0,Nat.zero_le _,rfl,rfl,hall4⟩
     case round =>
      clear hall4;obtain ⟨j,hj,rfl,hkn,hq⟩:=hrel;obtain ⟨wp,rfl⟩ : ∃ wo : World,wo = wr:=⟨_,rfl⟩;have HKN:=Lib.hid hkn;clear hkn;by_cases hlt : j < l2
      ·obtain ⟨b,off,x,ha,-,d0,d1,hx,-,htk⟩:=(HI3.out.keep hq).pairs.atPair hlt;subst ha;have Hx:=Lib.hid hx;have HTK:=Lib.hid htk;clear hx htk;have hblk:=heap_at wp (.cells #[.string x.paper,.string x.person] 39) _ rfl;have q0:=cell_at (i:=0) hblk rfl;have q1:=cell_at (i:=1) hblk rfl;have hqa:=hq.then_alloc (.cells #[.string x.paper,.string x.person] 39);clear hblk;obtain ⟨e0,e1,e2,e3,e4,e5,e6⟩:=HB3.out.keep hqa;have HP:=Lib.hid (paperAt_any a1 l1 c1 s.papers x.paper _ (HI3.out.keep hqa).papers (by have:=HI3.out.n1; omega));rcases findG_find (p:=isPap x.paper) (xs:=s.papers) (k:=0) with ⟨hpo,hfd⟩ | ⟨ip,y,hpo,hfd,-⟩
       ·rw [hfd] at HP;have hfin:=Lib.hid (show er = 8 from by rw [HER.out]; have hl : listF s.papers s.pairs = 8:=listF_none HF.out.symm (knownB_bad Hx.out (by rw [papOf,hpo]; rfl)); exact (setupF_3 P1.out P2.out (by rw [hl]; decide)).trans hl);clear hpo hfd;(go_wp2_with fail);refine HP.out.mono ?_;rintro e w5 ⟨rfl,hw5⟩;clear HP;(go_wp2_with fail);go_ret;exact ⟨ret_int' hfin.out.symm,(hk3.trans hqa).trans hw5⟩
       ·rw [hfd,Nat.zero_add] at HP;have hnx:=Lib.hid (knownB_take HKN.out HTK.out (by rw [papOf,hpo]; rfl));(have hip : decide ((ip : Int) < (0 : Int)) = false:=by simp);clear hpo hfd;(go_wp2_with fail);refine HP.out.mono ?_;rintro e w5 ⟨rfl,hw5⟩;clear HP;have hqb:=hqa.trans hw5;clear hqa hw5 e0 e1 e2 e3 e4 e5 e6 q0 q1 d0 d1;(go_wp2_with fail);go_roundw
        case rel=>exact ⟨j+1,by omega,by go_num,hnx.out,hqb⟩
        case measure=>simp [intOf]; omega
      ·(have hdj : decide ((j : Int) < (l2 : Int)) = false:=by simp; omega);have hok:=Lib.hid (listF_ok (ps:=s.papers) (l:=s.pairs) HF.out.symm (by have h:=HKN.out; rw [List.take_of_length_le (by have:=HI3.out.pairs.len; omega)] at h; exact h));(go_wp2_with fail);go_roundw
       case rel=>exact ⟨1,by omega,rfl,fun _=>hok.out,fun h=>absurd h (by omega),hq⟩
       case measure=>simp [intOf]
    ·(have hne : (f != 0) = true:=by simpa using hf0);have hl:=Lib.hid (listF_pairs (ps:=s.papers) (l:=s.pairs) (by rw [← HF.out]; exact hf0));have hfin:=Lib.hid (show er = f from by rw [HER.out]; exact (setupF_3 P1.out P2.out (by rw [hl.out,← HF.out]; exact hf0)).trans (hl.out.trans HF.out.symm));(go_wp2_with fail);go_ret;exact ⟨ret_int' hfin.out.symm,hk3.trans hall4⟩
   ·skip
    have rw1:=hall.cell HR1.out trivial;obtain ⟨f,hf⟩ : ∃ f,f = pairsF s.barred:=⟨_,rfl⟩;have HF:=Lib.hid hf;clear hf;(go_wp2_with fail);refine (pairsFault_any a3 l3 c3 s.barred _ (HI3.out.keep hall).barred HI3.out.n3).mono ?_;rintro e w4 ⟨rfl,hw4⟩;have hall4:=hall.trans hw4;rw [← HF.out];by_cases hf0 : f = 0
    ·subst hf0;clear hall hw4;(go_wp2_with fail);go_loopw [36] (fun i wq=>∃ j : Nat,j≤l3∧i = .int .i64 j∧knownB s.papers (s.barred.take j) = true∧All w3 wq) (fun i _=>l3 - (intOf i).toNat)
     case atStart=>exact ⟨0,Nat.zero_le _,rfl,rfl,hall4⟩
     case round =>
      clear hall4;obtain ⟨j,hj,rfl,hkn,hq⟩:=hrel;obtain ⟨wp,rfl⟩ : ∃ wo : World,wo = wr:=⟨_,rfl⟩;have HKN:=Lib.hid hkn;clear hkn;by_cases hlt : j < l3
      ·obtain ⟨b,off,x,ha,-,d0,d1,hx,-,htk⟩:=(HI3.out.keep hq).barred.atPair hlt;subst ha;have Hx:=Lib.hid hx;have HTK:=Lib.hid htk;clear hx htk;have hblk:=heap_at wp (.cells #[.string x.paper,.string x.person] 39) _ rfl;have q0:=cell_at (i:=0) hblk rfl;have q1:=cell_at (i:=1) hblk rfl;have hqa:=hq.then_alloc (.cells #[.string x.paper,.string x.person] 39);clear hblk;obtain ⟨e0,e1,e2,e3,e4,e5,e6⟩:=HB3.out.keep hqa;have HP:=Lib.hid (paperAt_any a1 l1 c1 s.papers x.paper _ (HI3.out.keep hqa).papers (by have:=HI3.out.n1; omega));rcases findG_find (p:=isPap x.paper) (xs:=s.papers) (k:=0) with ⟨hpo,hfd⟩ | ⟨ip,y,hpo,hfd,-⟩
       ·rw [hfd] at HP;have hfin:=Lib.hid (show er = 8 from by rw [HER.out]; have hl : listF s.papers s.barred = 8:=listF_none HF.out.symm (knownB_bad Hx.out (by rw [papOf,hpo]; rfl)); exact (setupF_4 P1.out P2.out (H1.out (by omega)) (by rw [hl]; decide)).trans hl);clear hpo hfd;(go_wp2_with fail);refine HP.out.mono ?_;rintro e w5 ⟨rfl,hw5⟩;clear HP;(go_wp2_with fail);go_ret;exact ⟨ret_int' hfin.out.symm,(hk3.trans hqa).trans hw5⟩
       ·rw [hfd,Nat.zero_add] at HP;have hnx:=Lib.hid (knownB_take HKN.out HTK.out (by rw [papOf,hpo]; rfl));(have hip : decide ((ip : Int) < (0 : Int)) = false:=by simp);clear hpo hfd;(go_wp2_with fail);refine HP.out.mono ?_;rintro e w5 ⟨rfl,hw5⟩;clear HP;have hqb:=hqa.trans hw5;clear hqa hw5 e0 e1 e2 e3 e4 e5 e6 q0 q1 d0 d1;(go_wp2_with fail);go_roundw
        case rel=>exact ⟨j+1,by omega,by go_num,hnx.out,hqb⟩
        case measure=>simp [intOf]; omega
      ·(have hdj : decide ((j : Int) < (l3 : Int)) = false:=by simp; omega);have hok:=Lib.hid (listF_ok (ps:=s.papers) (l:=s.barred) HF.out.symm (by have h:=HKN.out; rw [List.take_of_length_le (by have:=HI3.out.barred.len; omega)] at h; exact h));(go_wp2_with fail);go_roundw
       case rel=>exact ⟨2,by omega,rfl,fun _=>H1.out (by omega),fun _=>hok.out,hq⟩
       case measure=>simp [intOf]
    ·(have hne : (f != 0) = true:=by simpa using hf0);have hl:=Lib.hid (listF_pairs (ps:=s.papers) (l:=s.barred) (by rw [← HF.out]; exact hf0));have hfin:=Lib.hid (show er = f from by rw [HER.out]; exact (setupF_4 P1.out P2.out (H1.out (by omega)) (by rw [hl.out,← HF.out]; exact hf0)).trans (hl.out.trans HF.out.symm));(go_wp2_with fail);go_ret;exact ⟨ret_int' hfin.out.symm,hk3.trans hall4⟩
   ·skip
    rw [show ((2 : Nat) : Int) = 2 from rfl];have P3:=Lib.hid (H1.out (by omega));have P4:=Lib.hid (H2.out (by omega));have HRB:=Lib.hid (pairsF_rises (listF_pairs0 P4.out)).2;have HEQ:=Lib.hid (setupF_ok4 P1.out P2.out P3.out P4.out);clear H1 H2;obtain ⟨e0,e1,e2,e3,e4,e5,e6⟩:=HB3.out.keep hall;(go_wp2_with fail);go_loopw [51] (fun i wq=>∃ j : Nat,j≤l2∧i = .int .i64 j∧(s.pairs.take j).any (badP s) = false∧All w3 wq) (fun i _=>l2 - (intOf i).toNat)
    case atStart=>exact ⟨0,Nat.zero_le _,rfl,rfl,hall⟩
    case round =>
     clear hall e0 e1 e2 e3 e4 e5 e6;obtain ⟨j,hj,rfl,hkn,hq⟩:=hrel;obtain ⟨wp,rfl⟩ : ∃ wo : World,wo = wr:=⟨_,rfl⟩;have HKN:=Lib.hid hkn;clear hkn;by_cases hlt : j < l2
     ·obtain ⟨b,off,x,ha,-,d0,d1,hx,-,htk⟩:=(HI3.out.keep hq).pairs.atPair hlt;subst ha;have Hx:=Lib.hid hx;have HTK:=Lib.hid htk;clear hx htk;have hblk:=heap_at wp (.cells #[.string x.paper,.string x.person] 39) _ rfl;have q0:=cell_at (i:=0) hblk rfl;have q1:=cell_at (i:=1) hblk rfl;have hqa:=hq.then_alloc (.cells #[.string x.paper,.string x.person] 39);clear hblk;obtain ⟨e0,e1,e2,e3,e4,e5,e6⟩:=HB3.out.keep hqa;have HP:=Lib.hid (containsP_any a3 l3 c3 s.barred x.paper x.person _ (HI3.out.keep hqa).barred HI3.out.n3)
      cases hin : inP s.barred x.paper x.person with
      | true =>
       have hfin:=Lib.hid (show er = 13 from by rw [HER.out,HEQ.out]; exact if_pos (any_bad Hx.out (show badP s x = true by rw [badP,hin]; rfl)));rw [hin] at HP;clear hin;(go_wp2_with fail);refine HP.out.mono ?_;rintro e w5 ⟨rfl,hw5⟩;clear HP;(go_wp2_with fail);go_ret;exact ⟨ret_int' hfin.out.symm,(hk3.trans hqa).trans hw5⟩
      | false =>
       rw [hin] at HP;have HIN:=Lib.hid hin;clear hin;have HA:=Lib.hid (fun (wx : World) (k : All w3 wx)=>author_any a1 l1 c1 s.papers x wx (HI3.out.keep k).papers (by have:=HI3.out.n1; omega))
       cases hau : authB s.papers x.paper x.person with
       | true =>
        have hfin:=Lib.hid (show er = 13 from by rw [HER.out,HEQ.out]; exact if_pos (any_bad Hx.out (show badP s x = true by rw [badP,HIN.out,hau]; rfl)));have HAU:=Lib.hid hau;clear hau;(go_wp2_with fail);refine HP.out.mono ?_;rintro e w5 ⟨rfl,hw5⟩;have hqb:=hqa.trans hw5;have r0:=hw5.cell q0 trivial;have r1:=hw5.cell q1 trivial;clear HP e0 e1 e2 e3 e4 e5 e6;obtain ⟨e0,e1,e2,e3,e4,e5,e6⟩:=HB3.out.keep hqb;(go_wp2_with fail);refine (HA.out _ hqb).mono ?_;rintro e w6 ⟨rfl,hw6⟩;rw [HAU.out];have hqc:=hqb.trans hw6;clear e0 e1 e2 e3 e4 e5 e6 r0 r1 q0 q1 d0 d1 hw6 hw5 hqa hqb;(go_wp2_with fail);go_ret;exact ⟨ret_int' hfin.out.symm,hk3.trans hqc⟩
       | false =>
        have hnx:=Lib.hid (any_take HKN.out HTK.out (show badP s x = false by rw [badP,HIN.out,hau]; rfl));have HAU:=Lib.hid hau;clear hau;(go_wp2_with fail);refine HP.out.mono ?_;rintro e w5 ⟨rfl,hw5⟩;have hqb:=hqa.trans hw5;have r0:=hw5.cell q0 trivial;have r1:=hw5.cell q1 trivial;clear HP e0 e1 e2 e3 e4 e5 e6;obtain ⟨e0,e1,e2,e3,e4,e5,e6⟩:=HB3.out.keep hqb;(go_wp2_with fail);refine (HA.out _ hqb).mono ?_;rintro e w6 ⟨rfl,hw6⟩;rw [HAU.out];have hqc:=hqb.trans hw6;clear e0 e1 e2 e3 e4 e5 e6 r0 r1 q0 q1 d0 d1 hw6 hw5 hqa hqb;(go_wp2_with fail);go_roundw
        case rel=>exact ⟨j+1,by omega,by go_num,hnx.out,hqc⟩
        case measure=>simp [intOf]; omega
     ·(have hdj : decide ((j : Int) < (l2 : Int)) = false:=by simp; omega);have hcl:=Lib.hid (show ¬ clashS s = true from by have h:=HKN.out; rw [List.take_of_length_le (by have:=HI3.out.pairs.len; omega)] at h; rw [clashS,h]; simp);have HE1:=Lib.hid (HEQ.out.trans (if_neg hcl.out));clear HKN;obtain ⟨e0,e1,e2,e3,e4,e5,e6⟩:=HB3.out.keep hq;by_cases h20 : 20 < l4
      ·(have hd : decide ((20 : Int) < (l4 : Int)) = true:=by simp; omega);have hfin:=Lib.hid (show er = 2 from by rw [HER.out]; exact HE1.out.trans (if_pos (by have:=HI3.out.chairs.len; omega)));(go_wp2_with fail);go_ret;exact ⟨ret_int' hfin.out.symm,hk3.trans hq⟩
      ·(have hd : decide ((20 : Int) < (l4 : Int)) = false:=by simp; omega);have HE2:=Lib.hid (HE1.out.trans (if_neg (by have:=HI3.out.chairs.len; omega)));obtain ⟨f,hf⟩ : ∃ f,f = riseF none s.chairs:=⟨_,rfl⟩;have HF:=Lib.hid hf;clear hf h20;(go_wp2_with fail);refine (rising_any a4 l4 c4 s.chairs _ (HI3.out.keep hq).chairs HI3.out.n4).mono ?_;rintro e w5 ⟨rfl,hw5⟩;have hqb:=hq.trans hw5;clear e0 e1 e2 e3 e4 e5 e6;obtain ⟨e0,e1,e2,e3,e4,e5,e6⟩:=HB3.out.keep hqb;rw [← HF.out];by_cases hf0 : f = 0
       case neg =>
        (have hne : (f != 0) = true:=by simpa using hf0);have hfin:=Lib.hid (show er = f from by rw [HER.out]; exact (HE2.out.trans (if_pos (by rw [← HF.out]; exact hf0))).trans HF.out.symm);(go_wp2_with fail);go_ret;exact ⟨ret_int' hfin.out.symm,hk3.trans hqb⟩
       case pos =>
        subst hf0;have HE3:=Lib.hid (HE2.out.trans (if_neg (by rw [← HF.out]; simp)));clear HE1 HE2 HF;by_cases hD : s.due < 0∨5761440 < s.due
        case pos =>
         have hfin:=Lib.hid (show er = 1 from by rw [HER.out]; exact HE3.out.trans (if_pos (Or.inl hD)));(go_wp2_with fail);refine (in_any s.due 0 5761440 _).mono ?_;rintro e wz ⟨rfl,hh⟩;subst hh;rw [show decide (0≤s.due∧s.due≤5761440) = false by simp; omega];(go_wp2_with fail);go_ret;exact ⟨ret_int' hfin.out.symm,hk3.trans hqb⟩
        case neg =>
         by_cases hR : s.reply < 0∨5761440 < s.reply
         case pos =>
          have hfin:=Lib.hid (show er = 1 from by rw [HER.out]; exact HE3.out.trans (if_pos (Or.inr hR)));(go_wp2_with fail);refine (in_any s.due 0 5761440 _).mono ?_;rintro e wz ⟨rfl,hh⟩;subst hh;rw [show decide (0≤s.due∧s.due≤5761440) = true by simp; omega];(go_wp2_with fail);refine (in_any s.reply 0 5761440 _).mono ?_;rintro e wz ⟨rfl,hh⟩;subst hh;rw [show decide (0≤s.reply∧s.reply≤5761440) = false by simp; omega];(go_wp2_with fail);go_ret;exact ⟨ret_int' hfin.out.symm,hk3.trans hqb⟩
         case neg =>
          have hfin:=Lib.hid (show er = 0 from by rw [HER.out]; exact HE3.out.trans (if_neg (fun h=>h.elim hD hR)));(go_wp2_with fail);refine (in_any s.due 0 5761440 _).mono ?_;rintro e wz ⟨rfl,hh⟩;subst hh;rw [show decide (0≤s.due∧s.due≤5761440) = true by simp; omega];(go_wp2_with fail);refine (in_any s.reply 0 5761440 _).mono ?_;rintro e wz ⟨rfl,hh⟩;subst hh;rw [show decide (0≤s.reply∧s.reply≤5761440) = true by simp; omega];(go_wp2_with fail);go_ret;exact ⟨ret_int' hfin.out.symm,hk3.trans hqb⟩
end Go.Proofs.YtjbaijgdkkccbaaGreatDoor
