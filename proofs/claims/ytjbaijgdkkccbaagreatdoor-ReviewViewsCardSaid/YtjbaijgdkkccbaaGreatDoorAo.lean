/- CheckPairs and PairsFault answer pairsF. -/
import Derived.Test.YtjbaijgdkkccbaaGreatDoorSd
import Derived.Test.YtjbaijgdkkccbaaGreatDoorBa
namespace Go.Proofs.YtjbaijgdkkccbaaGreatDoor
open Go.RowKit

set_option maxRecDepth 100000 in
set_option maxHeartbeats 6400000 in
theorem checkPairs_any (a : Option Addr) (len cap : Nat) (xs : List Pair2) (w : World) (hs : Sl RPair 2 (fun _=>True) w a len xs) (hl : len≤1000000) :
  Calls Tryz.prog 196 #[.slice a len cap] w fun e w'=>e = .returned (.int .i64 (pairsF xs))∧All w w':=by
 have Hlen:=Lib.hid hs.len;by_cases hbig : 120000 < len
 ·have hfin:=Lib.hid (pairsF_large (xs:=xs) (by have:=Hlen.out; omega));(have hd : decide ((120000 : Int) < (len : Int)) = true:=by simp; omega);(go_enter Tryz.func196,Tryz.ntmps196);(go_wp2_with fail);go_ret;exact ⟨ret_int' hfin.out.symm,Kept.refl _ _⟩
 ·have hfin:=Lib.hid (pairsF_some (xs:=xs) (by have:=Hlen.out; omega));(have hd : decide ((120000 : Int) < (len : Int)) = false:=by simp; omega);(go_enter Tryz.func196,Tryz.ntmps196);(go_wp2_with fail);go_loopw [10] (fun i wr=>∃ k : Nat,k≤len∧i = .int .i64 k∧PairsAt xs k∧All w wr) (fun i _=>len - (intOf i).toNat)
  case atStart=>exact ⟨0,Nat.zero_le _,rfl,PairsAt.zero _,Kept.refl _ _⟩
  case round =>
   obtain ⟨k,hk,rfl,hat,hwr⟩:=hrel;obtain ⟨wo,rfl⟩ : ∃ wo : World,wo = wr:=⟨_,rfl⟩;have HA:=Lib.hid hat
   clear hat
   by_cases hlt : k < len
   ·obtain ⟨b,off,x,ha,-,c0,c1,hx,-,-⟩:=(hs.keep RPair.ok hwr).atPair hlt;subst ha;have hz1:=x.h1;have hz2:=x.h2;have Hx:=Lib.hid hx;have hblk:=heap_at wo (.cells #[.string x.paper,.string x.person] 39) _ rfl;have e0:=cell_at (i:=0) hblk rfl;have e1:=cell_at (i:=1) hblk rfl;have hwa : All w (wo.alloc (.cells #[.string x.paper,.string x.person] 39)):=hwr.then_alloc _;clear hx hblk
    cases hk1 : isKeyB x.paper
    ·(go_wp2_with fail);refine (isKey_any x.paper _ (by omega)).mono ?_;rintro e w' ⟨rfl,hh⟩;subst hh;rw [hk1];(go_wp2_with fail);go_ret;exact ⟨ret_int' (by rw [hfin.out]; exact (HA.out.bad Hx.out (pairF_name hk1) (by decide)).symm),hwa⟩
    ·have HK1:=Lib.hid hk1
     cases hk2 : isKeyB x.person
     ·(go_wp2_with fail);refine (isKey_any x.paper _ (by omega)).mono ?_;rintro e w' ⟨rfl,hh⟩;subst hh;rw [hk1];(go_wp2_with fail);refine (isKey_any x.person _ (by omega)).mono ?_;rintro e w' ⟨rfl,hh⟩;subst hh;rw [hk2];(go_wp2_with fail);go_ret;exact ⟨ret_int' (by rw [hfin.out]; exact (HA.out.bad Hx.out (pairF_name2 HK1.out hk2) (by decide)).symm),hwa⟩
     ·have HK2:=Lib.hid hk2;rcases Nat.eq_zero_or_pos k with hk0 | hk0
      ·subst hk0;(have d0 : wo.cell? ⟨b,off,none⟩ = some (.string x.paper):=by simpa using c0);(have d1 : wo.cell? ⟨b,off+1,none⟩ = some (.string x.person):=by simpa using c1);(have hgd : decide ((0 : Int) < ((0 : Nat) : Int)) = false:=by simp);have HO:=Lib.hid (show ordP (xs.take 0).getLast? x = false by simp [ordP]);(go_wp2_with fail);refine (isKey_any x.paper _ (by omega)).mono ?_;rintro e w' ⟨rfl,hh⟩;subst hh;rw [hk1];(go_wp2_with fail);refine (isKey_any x.person _ (by omega)).mono ?_;rintro e w' ⟨rfl,hh⟩;subst hh;rw [hk2];go_wp2_with fail
       go_quiet (fail)
       (go_wp2_with fail);go_roundw
       case rel=>exact ⟨0+1,by omega,by go_num,HA.out.next Hx.out (pairF_ok HK1.out HK2.out HO.out),hwa.then_drewN _⟩
       case measure=>simp [intOf]; omega
      ·obtain ⟨kp,rfl⟩ : ∃ kp,k = kp+1:=⟨k - 1,by omega⟩;obtain ⟨bq,oq,y,haq,-,p0,p1,hy,-,-⟩:=(hs.keep RPair.ok hwr).atPair (k:=kp) (by omega)
       cases haq
       have hw1:=y.h1;have hw2:=y.h2;have hlast : (xs.take (kp+1)).getLast? = some y:=last_take hy;have q0:=(Kept.alloc (fun _=>True) wo (.cells #[.string x.paper,.string x.person] 39)).cell p0 trivial;have q1:=(Kept.alloc (fun _=>True) wo (.cells #[.string x.paper,.string x.person] 39)).cell p1 trivial;clear p0 p1 hy
       cases hord : decide (0≤cmpP y.paper y.person x.paper x.person)
       ·have HO:=Lib.hid (show ordP (xs.take (kp+1)).getLast? x = false by rw [hlast]; exact hord);clear hlast;(go_wp2_with fail);refine (isKey_any x.paper _ (by omega)).mono ?_;rintro e w' ⟨rfl,hh⟩;subst hh;rw [hk1];(go_wp2_with fail);refine (isKey_any x.person _ (by omega)).mono ?_;rintro e w' ⟨rfl,hh⟩;subst hh;rw [hk2];(go_wp2_with fail);have f1 : IntKind.i64.wrap (kp : Int) = (kp : Int):=IntWalk.i64_in _ (by omega);(have f3 : (0 : Int)≤(kp : Int):=by omega);have f4 : (kp : Int) < (len : Int):=by omega
        go_region_held3 (fun w'=>w'.cell? ⟨b,off+kp*2,none⟩ = some (.string y.paper)∧w'.cell? ⟨b,off+kp*2+1,none⟩ = some (.string y.person)∧w'.cell? ⟨wo.heap.size,0,none⟩ = some (.string x.paper)∧w'.cell? ⟨wo.heap.size,1,none⟩ = some (.string x.person)) (first | go_keep | exact ⟨by assumption,by assumption,by assumption,by assumption⟩) (first | (go_at_call 152; refine (comparePairs_any _ _ _ _ _).mono ?_; rintro e q ⟨rfl,hq⟩; have hp1 : All (wo.alloc (.cells #[.string x.paper,.string x.person] 39)) q:=Kept.trans (by repeat (first | exact Kept.refl _ _ | refine Kept.then_drew ?_ | refine Kept.then_drewN ?_ _ | refine Kept.then_alloc ?_ _)) hq; have a0:=hp1.cell q0 trivial; have a1:=hp1.cell q1 trivial; have a2:=hp1.cell e0 trivial; have a3:=hp1.cell e1 trivial))
        clear f1 f3 f4;(go_wp2_with fail);go_roundw
        case rel=>exact ⟨(kp+1)+1,by omega,by go_num,HA.out.next Hx.out (pairF_ok HK1.out HK2.out HO.out),(hwa.trans hp1)⟩
        case measure=>simp [intOf]; omega
       ·have HO:=Lib.hid (show ordP (xs.take (kp+1)).getLast? x = true by rw [hlast]; exact hord);clear hlast;(go_wp2_with fail);refine (isKey_any x.paper _ (by omega)).mono ?_;rintro e w' ⟨rfl,hh⟩;subst hh;rw [hk1];(go_wp2_with fail);refine (isKey_any x.person _ (by omega)).mono ?_;rintro e w' ⟨rfl,hh⟩;subst hh;rw [hk2];(go_wp2_with fail);have f1 : IntKind.i64.wrap (kp : Int) = (kp : Int):=IntWalk.i64_in _ (by omega);(have f3 : (0 : Int)≤(kp : Int):=by omega);have f4 : (kp : Int) < (len : Int):=by omega
        go_region_held3 (fun w'=>w'.cell? ⟨b,off+kp*2,none⟩ = some (.string y.paper)∧w'.cell? ⟨b,off+kp*2+1,none⟩ = some (.string y.person)∧w'.cell? ⟨wo.heap.size,0,none⟩ = some (.string x.paper)∧w'.cell? ⟨wo.heap.size,1,none⟩ = some (.string x.person)) (first | go_keep | exact ⟨by assumption,by assumption,by assumption,by assumption⟩) (first | (go_at_call 152; refine (comparePairs_any _ _ _ _ _).mono ?_; rintro e q ⟨rfl,hq⟩; have hp1 : All (wo.alloc (.cells #[.string x.paper,.string x.person] 39)) q:=Kept.trans (by repeat (first | exact Kept.refl _ _ | refine Kept.then_drew ?_ | refine Kept.then_drewN ?_ _ | refine Kept.then_alloc ?_ _)) hq; have a0:=hp1.cell q0 trivial; have a1:=hp1.cell q1 trivial; have a2:=hp1.cell e0 trivial; have a3:=hp1.cell e1 trivial))
        clear f1 f3 f4;(go_wp2_with fail);go_ret;exact ⟨ret_int' (by rw [hfin.out]; exact (HA.out.bad Hx.out (pairF_order HK1.out HK2.out HO.out) (by decide)).symm),(hwa.trans hp1)⟩
   ·(have hdk : decide ((k : Int) < (len : Int)) = false:=by simp; omega);(go_wp2_with fail);go_ret;exact ⟨ret_int' (by rw [hfin.out]; exact (HA.out.ok (by have:=Hlen.out; omega)).symm),hwr⟩

set_option maxRecDepth 100000 in
set_option maxHeartbeats 6400000 in
theorem pairsFault_any (a : Option Addr) (len cap : Nat) (xs : List Pair2) (w : World) (hs : Sl RPair 2 (fun _=>True) w a len xs) (hl : len≤1000000) :
  Calls Tryz.prog 135 #[.slice a len cap] w fun e w'=>e = .returned (.int .i64 (pairsF xs))∧All w w':=by
 have Hlen:=Lib.hid hs.len;by_cases hbig : 120000 < len
 ·have hfin:=Lib.hid (pairsF_large (xs:=xs) (by have:=Hlen.out; omega));(have hd : decide ((120000 : Int) < (len : Int)) = true:=by simp; omega);(go_enter Tryz.func135,Tryz.ntmps135);(go_wp2_with fail);go_ret;exact ⟨ret_int' hfin.out.symm,Kept.refl _ _⟩
 ·have hfin:=Lib.hid (pairsF_some (xs:=xs) (by have:=Hlen.out; omega));(have hd : decide ((120000 : Int) < (len : Int)) = false:=by simp; omega);(go_enter Tryz.func135,Tryz.ntmps135);(go_wp2_with fail);go_loopw [10] (fun i wr=>∃ k : Nat,k≤len∧i = .int .i64 k∧PairsAt xs k∧All w wr) (fun i _=>len - (intOf i).toNat)
  case atStart=>exact ⟨0,Nat.zero_le _,rfl,PairsAt.zero _,Kept.refl _ _⟩
  case round =>
   obtain ⟨k,hk,rfl,hat,hwr⟩:=hrel;obtain ⟨wo,rfl⟩ : ∃ wo : World,wo = wr:=⟨_,rfl⟩;have HA:=Lib.hid hat
   clear hat
   by_cases hlt : k < len
   ·obtain ⟨b,off,x,ha,-,c0,c1,hx,-,-⟩:=(hs.keep RPair.ok hwr).atPair hlt;subst ha;have hz1:=x.h1;have hz2:=x.h2;have Hx:=Lib.hid hx;have hblk:=heap_at wo (.cells #[.string x.paper,.string x.person] 39) _ rfl;have e0:=cell_at (i:=0) hblk rfl;have e1:=cell_at (i:=1) hblk rfl;have hwa : All w (wo.alloc (.cells #[.string x.paper,.string x.person] 39)):=hwr.then_alloc _;clear hx hblk
    cases hk1 : isKeyB x.paper
    ·(go_wp2_with fail);refine (key_any x.paper _ (by omega)).mono ?_;rintro e v1 ⟨rfl,hv1⟩;have hwa:=hwa.trans hv1;have e0:=hv1.cell e0 trivial;have e1:=hv1.cell e1 trivial;rw [hk1];(go_wp2_with fail);go_ret;exact ⟨ret_int' (by rw [hfin.out]; exact (HA.out.bad Hx.out (pairF_name hk1) (by decide)).symm),hwa⟩
    ·have HK1:=Lib.hid hk1
     cases hk2 : isKeyB x.person
     ·(go_wp2_with fail);refine (key_any x.paper _ (by omega)).mono ?_;rintro e v1 ⟨rfl,hv1⟩;have hwa:=hwa.trans hv1;have e0:=hv1.cell e0 trivial;have e1:=hv1.cell e1 trivial;rw [hk1];(go_wp2_with fail);refine (key_any x.person _ (by omega)).mono ?_;rintro e v2 ⟨rfl,hv2⟩;have hwa:=hwa.trans hv2;have e0:=hv2.cell e0 trivial;have e1:=hv2.cell e1 trivial;rw [hk2];(go_wp2_with fail);go_ret;exact ⟨ret_int' (by rw [hfin.out]; exact (HA.out.bad Hx.out (pairF_name2 HK1.out hk2) (by decide)).symm),hwa⟩
     ·have HK2:=Lib.hid hk2;rcases Nat.eq_zero_or_pos k with hk0 | hk0
      ·subst hk0;(have d0 : wo.cell? ⟨b,off,none⟩ = some (.string x.paper):=by simpa using c0);(have d1 : wo.cell? ⟨b,off+1,none⟩ = some (.string x.person):=by simpa using c1);(have hgd : decide ((0 : Int) < ((0 : Nat) : Int)) = false:=by simp);have HO:=Lib.hid (show ordP (xs.take 0).getLast? x = false by simp [ordP]);(go_wp2_with fail);refine (key_any x.paper _ (by omega)).mono ?_;rintro e v1 ⟨rfl,hv1⟩;have hwa:=hwa.trans hv1;have e0:=hv1.cell e0 trivial;have e1:=hv1.cell e1 trivial;rw [hk1];(go_wp2_with fail);refine (key_any x.person _ (by omega)).mono ?_;rintro e v2 ⟨rfl,hv2⟩;have hwa:=hwa.trans hv2;have e0:=hv2.cell e0 trivial;have e1:=hv2.cell e1 trivial;rw [hk2];go_wp2_with fail
       go_quiet (fail)
       (go_wp2_with fail);go_roundw
       case rel=>exact ⟨0+1,by omega,by go_num,HA.out.next Hx.out (pairF_ok HK1.out HK2.out HO.out),hwa.then_drewN _⟩
       case measure=>simp [intOf]; omega
      ·obtain ⟨kp,rfl⟩ : ∃ kp,k = kp+1:=⟨k - 1,by omega⟩;obtain ⟨bq,oq,y,haq,-,p0,p1,hy,-,-⟩:=(hs.keep RPair.ok hwr).atPair (k:=kp) (by omega)
       cases haq
       have hw1:=y.h1;have hw2:=y.h2;have hlast : (xs.take (kp+1)).getLast? = some y:=last_take hy;have q0:=(Kept.alloc (fun _=>True) wo (.cells #[.string x.paper,.string x.person] 39)).cell p0 trivial;have q1:=(Kept.alloc (fun _=>True) wo (.cells #[.string x.paper,.string x.person] 39)).cell p1 trivial;clear p0 p1 hy
       cases hord : decide (0≤cmpP y.paper y.person x.paper x.person)
       ·have HO:=Lib.hid (show ordP (xs.take (kp+1)).getLast? x = false by rw [hlast]; exact hord);clear hlast;(go_wp2_with fail);refine (key_any x.paper _ (by omega)).mono ?_;rintro e v1 ⟨rfl,hv1⟩;have hwa:=hwa.trans hv1;have e0:=hv1.cell e0 trivial;have e1:=hv1.cell e1 trivial;have q0:=hv1.cell q0 trivial;have q1:=hv1.cell q1 trivial;rw [hk1];(go_wp2_with fail);refine (key_any x.person _ (by omega)).mono ?_;rintro e v2 ⟨rfl,hv2⟩;have hwa:=hwa.trans hv2;have e0:=hv2.cell e0 trivial;have e1:=hv2.cell e1 trivial;have q0:=hv2.cell q0 trivial;have q1:=hv2.cell q1 trivial;rw [hk2];(go_wp2_with fail);have f1 : IntKind.i64.wrap (kp : Int) = (kp : Int):=IntWalk.i64_in _ (by omega);(have f3 : (0 : Int)≤(kp : Int):=by omega);have f4 : (kp : Int) < (len : Int):=by omega
        go_region_held3 (fun w'=>w'.cell? ⟨b,off+kp*2,none⟩ = some (.string y.paper)∧w'.cell? ⟨b,off+kp*2+1,none⟩ = some (.string y.person)∧w'.cell? ⟨wo.heap.size,0,none⟩ = some (.string x.paper)∧w'.cell? ⟨wo.heap.size,1,none⟩ = some (.string x.person)) (first | go_keep | exact ⟨by assumption,by assumption,by assumption,by assumption⟩) (first | (go_at_call 141; refine (pairOrder_any _ _ _ _ _ (by omega) (by omega) (by omega) (by omega)).mono ?_; rintro e q ⟨rfl,hq⟩; have hp1 : All v2 q:=Kept.trans (by repeat (first | exact Kept.refl _ _ | refine Kept.then_drew ?_ | refine Kept.then_drewN ?_ _ | refine Kept.then_alloc ?_ _)) hq; have a0:=hp1.cell q0 trivial; have a1:=hp1.cell q1 trivial; have a2:=hp1.cell e0 trivial; have a3:=hp1.cell e1 trivial))
        clear f1 f3 f4;(go_wp2_with fail);go_roundw
        case rel=>exact ⟨(kp+1)+1,by omega,by go_num,HA.out.next Hx.out (pairF_ok HK1.out HK2.out HO.out),(hwa.trans hp1)⟩
        case measure=>simp [intOf]; omega
       ·have HO:=Lib.hid (show ordP (xs.take (kp+1)).getLast? x = true by rw [hlast]; exact hord);clear hlast;(go_wp2_with fail);refine (key_any x.paper _ (by omega)).mono ?_;rintro e v1 ⟨rfl,hv1⟩;have hwa:=hwa.trans hv1;have e0:=hv1.cell e0 trivial;have e1:=hv1.cell e1 trivial;have q0:=hv1.cell q0 trivial;have q1:=hv1.cell q1 trivial;rw [hk1];(go_wp2_with fail);refine (key_any x.person _ (by omega)).mono ?_;rintro e v2 ⟨rfl,hv2⟩;have hwa:=hwa.trans hv2;have e0:=hv2.cell e0 trivial;have e1:=hv2.cell e1 trivial;have q0:=hv2.cell q0 trivial;have q1:=hv2.cell q1 trivial;rw [hk2];(go_wp2_with fail);have f1 : IntKind.i64.wrap (kp : Int) = (kp : Int):=IntWalk.i64_in _ (by omega);(have f3 : (0 : Int)≤(kp : Int):=by omega);have f4 : (kp : Int) < (len : Int):=by omega
        go_region_held3 (fun w'=>w'.cell? ⟨b,off+kp*2,none⟩ = some (.string y.paper)∧w'.cell? ⟨b,off+kp*2+1,none⟩ = some (.string y.person)∧w'.cell? ⟨wo.heap.size,0,none⟩ = some (.string x.paper)∧w'.cell? ⟨wo.heap.size,1,none⟩ = some (.string x.person)) (first | go_keep | exact ⟨by assumption,by assumption,by assumption,by assumption⟩) (first | (go_at_call 141; refine (pairOrder_any _ _ _ _ _ (by omega) (by omega) (by omega) (by omega)).mono ?_; rintro e q ⟨rfl,hq⟩; have hp1 : All v2 q:=Kept.trans (by repeat (first | exact Kept.refl _ _ | refine Kept.then_drew ?_ | refine Kept.then_drewN ?_ _ | refine Kept.then_alloc ?_ _)) hq; have a0:=hp1.cell q0 trivial; have a1:=hp1.cell q1 trivial; have a2:=hp1.cell e0 trivial; have a3:=hp1.cell e1 trivial))
        clear f1 f3 f4;(go_wp2_with fail);go_ret;exact ⟨ret_int' (by rw [hfin.out]; exact (HA.out.bad Hx.out (pairF_order HK1.out HK2.out HO.out) (by decide)).symm),(hwa.trans hp1)⟩
   ·(have hdk : decide ((k : Int) < (len : Int)) = false:=by simp; omega);(go_wp2_with fail);go_ret;exact ⟨ret_int' (by rw [hfin.out]; exact (HA.out.ok (by have:=Hlen.out; omega)).symm),hwr⟩
end Go.Proofs.YtjbaijgdkkccbaaGreatDoor

/- Index, Contains, IndexFunc and ContainsFunc of pairs. -/
namespace Go.Proofs.YtjbaijgdkkccbaaGreatDoor
open Go.RowKit

def findP (p : Pair2→Bool) : Nat→List Pair2→Int
 | _,[]=>-1
 | k,s :: l=>if p s = true then k else findP p (k+1) l
theorem findP_neg {p : Pair2→Bool} : ∀ {ss : List Pair2} {k : Nat},ss.any p = false→findP p k ss = -1
 | [],_,_=>rfl
 | s :: l,k,h=>by
  simp only [List.any_cons,Bool.or_eq_false_iff] at h;rw [findP,if_neg (by simp [h.1])];exact findP_neg h.2
theorem findP_nonneg {p : Pair2→Bool} : ∀ {ss : List Pair2} {k : Nat},ss.any p = true→0≤findP p k ss
 | s :: l,k,h=>by
  rw [findP];by_cases e : p s = true
  ·rw [if_pos e]; omega
  ·rw [if_neg e];simp only [List.any_cons,Bool.or_eq_true] at h;exact findP_nonneg (h.resolve_left e)
theorem findP_append {p : Pair2→Bool} : ∀ {a b : List Pair2} {k : Nat},a.any p = false→findP p k (a ++ b) = findP p (k+a.length) b
 | [],b,k,_=>by simp
 | s :: l,b,k,h=>by
  simp only [List.any_cons,Bool.or_eq_false_iff] at h;rw [List.cons_append,findP,if_neg (by simp [h.1]),findP_append h.2];simp only [List.length_cons]
  congr 1
  omega
def isP (a b : ByteArray) : Pair2→Bool:=fun q=>decide (q.paper = a∧q.person = b)
theorem inP_eq (l : List Pair2) (a b : ByteArray) : inP l a b = l.any (isP a b):=rfl

set_option maxHeartbeats 1600000 in
theorem indexP_any (a : Option Addr) (len cap : Nat) (ss : List Pair2) (pa pe : ByteArray) (w : World) (hs : Sl RPair 2 (fun _=>True) w a len ss) (hl : len≤1000000) :
  Calls Tryz.prog 146 #[.slice a len cap,.agg #[.string pa,.string pe]] w fun e w'=>e = .returned (.int .i64 (findP (isP pa pe) 0 ss))∧All w w':=by
 have hlen:=hs.len;have hk1 : All w (w.alloc (.cells #[.string pa,.string pe] 39)):=Kept.alloc _ _ _;have hblk:=heap_at w (.cells #[.string pa,.string pe] 39) _ rfl;have r0:=cell_at (i:=0) hblk rfl;have r1:=cell_at (i:=1) hblk rfl;have HR:=Lib.hid (fun (wx : World) (k : All (w.alloc (.cells #[.string pa,.string pe] 39)) wx)=>(⟨k.cell r0 trivial,k.cell r1 trivial⟩ : _∧_));have hs1:=hs.keep RPair.ok hk1;obtain ⟨p,hp⟩ : ∃ p,p = isP pa pe:=⟨_,rfl⟩;have HPQ:=Lib.hid (show ∀ q : Pair2,p q = decide (q.paper = pa∧q.person = pe) from fun q=>by rw [hp]; rfl);rw [← hp];clear hblk r0 r1 hs hp;(go_enter Tryz.func146,Tryz.ntmps146);(go_wp2_with fail);generalize w.alloc (.cells #[.string pa,.string pe] 39) = w1 at *;go_loopw [5,8] (fun _ i wr=>∃ k : Nat,k≤len∧i = .int .i64 k∧(ss.take k).any p = false∧All w1 wr) (fun _ i _=>len - (intOf i).toNat)
 case atStart=>exact ⟨0,Nat.zero_le _,rfl,by simp,Kept.refl _ _⟩
 case round =>
  obtain ⟨k,hk,rfl,hnot,hall⟩:=hrel;obtain ⟨wo,rfl⟩ : ∃ wo : World,wo = wr:=⟨_,rfl⟩;by_cases hlt : k < len
  ·obtain ⟨b,off,y,ha,-,hck,hck1,-,hsplit,htake⟩:=(hs1.keep RPair.ok hall).atPair hlt;(have hltake : (ss.take k).length = k:=by simp; omega);have Hsplit:=Lib.hid hsplit;have Htake:=Lib.hid htake;have Hl:=Lib.hid hltake;have Hnot:=Lib.hid hnot;obtain ⟨r0,r1⟩:=HR.out _ hall;clear hsplit htake hltake hlen hnot;subst ha;clear hs1;by_cases h1 : y.paper = pa
   ·by_cases h2 : y.person = pe
    ·(have hpy : p y = true:=by rw [HPQ.out]; simp [h1,h2]);(have hfin : findP p 0 ss = k:=by rw [Hsplit.out,findP_append Hnot.out,Hl.out,findP,if_pos hpy]; simp);have Hfin:=Lib.hid hfin;(have d1 : (pa.toList == y.paper.toList) = true:=by simp [h1]);(have d2 : (pe.toList == y.person.toList) = true:=by simp [h2]);clear hfin h1 h2 hpy;go_wp2_with fail
     go_quiet (fail)
     (go_wp2_with fail);go_ret;exact ⟨ret_int' Hfin.out.symm,(hk1.trans hall).then_drewN _⟩
    ·(have hpy : p y = false:=by rw [HPQ.out]; simp [h2]);have HPY:=Lib.hid hpy;(have d1 : (pa.toList == y.paper.toList) = true:=by simp [h1]);have d2 : (pe.toList == y.person.toList) = false:=bytes_ne (fun e=>h2 e.symm);clear h1 h2 hpy;go_wp2_with fail
     go_quiet (fail)
     (go_wp2_with fail);go_roundw
     case rel=>exact ⟨k+1,by omega,by go_num,by rw [Htake.out,List.any_append,Hnot.out]; simp [HPY.out],hall.then_drewN _⟩
     case measure=>simp [intOf]; omega
   ·(have hpy : p y = false:=by rw [HPQ.out]; simp [h1]);have HPY:=Lib.hid hpy;have d1 : (pa.toList == y.paper.toList) = false:=bytes_ne (fun e=>h1 e.symm);clear h1 hpy;go_wp2_with fail
    go_quiet (fail)
    (go_wp2_with fail);go_roundw
    case rel=>exact ⟨k+1,by omega,by go_num,by rw [Htake.out,List.any_append,Hnot.out]; simp [HPY.out],hall.then_drewN _⟩
    case measure=>simp [intOf]; omega
  ·(have hd : decide ((k : Int) < (len : Int)) = false:=by simp; omega);have hfin : findP p 0 ss = -1:=findP_neg (by rw [List.take_of_length_le (by omega)] at hnot; exact hnot);have Hfin:=Lib.hid hfin;clear hfin;(go_wp2_with fail);go_ret;exact ⟨ret_int' Hfin.out.symm,hk1.trans hall⟩

theorem containsP_any (a : Option Addr) (len cap : Nat) (ss : List Pair2) (pa pe : ByteArray) (w : World) (hs : Sl RPair 2 (fun _=>True) w a len ss) (hl : len≤1000000) :
  Calls Tryz.prog 64 #[.slice a len cap,.agg #[.string pa,.string pe]] w fun e w'=>e = .returned (.bool (inP ss pa pe))∧All w w':=by
 have hk1 : All w (w.alloc (.cells #[.string pa,.string pe] 39)):=Kept.alloc _ _ _;have hI:=Lib.hid (indexP_any a len cap ss pa pe _ (hs.keep RPair.ok hk1) hl);rw [inP_eq]
 cases hx : ss.any (isP pa pe) with
 | true =>
  have h0:=findP_nonneg (k:=0) hx;clear hx hs;generalize findP (isP pa pe) 0 ss = n at *;(go_enter Tryz.func64,Tryz.ntmps64);(go_wp2_with fail);refine hI.out.mono ?_;rintro e w' ⟨rfl,hw⟩;(go_wp2);go_ret;exact ⟨rfl,hk1.trans hw⟩
 | false =>
  have h0:=findP_neg (k:=0) hx;rw [h0] at hI;clear hx hs h0;(go_enter Tryz.func64,Tryz.ntmps64);(go_wp2_with fail);refine hI.out.mono ?_;rintro e w' ⟨rfl,hw⟩;(go_wp2);go_ret;exact ⟨rfl,hk1.trans hw⟩
end Go.Proofs.YtjbaijgdkkccbaaGreatDoor

/- BinarySearchFunc of pairs that rise; isIn; the closures of CheckBoard and BoardFault that ask whether a pair is barred. -/
namespace Go.Proofs.YtjbaijgdkkccbaaGreatDoor
open Go.RowKit

theorem cmpP_zero {a1 a2 b1 b2 : ByteArray} : cmpP a1 a2 b1 b2 = 0 ↔ a1 = b1∧a2 = b2:=by
 unfold cmpP;by_cases h : Lib.compareBytes a1.data.toList b1.data.toList = 0
 ·rw [if_neg (by simp [h])];have e : a1 = b1:=Go.WideShapes.bytes_inj ((cmp_zero _ _).1 h);constructor
  ·intro h2; exact ⟨e,Go.WideShapes.bytes_inj ((cmp_zero _ _).1 h2)⟩
  ·rintro ⟨-,rfl⟩; exact (cmp_zero _ _).2 rfl
 ·rw [if_pos h];constructor
  ·intro h2; exact absurd h2 h
  ·rintro ⟨rfl,-⟩; exact absurd ((cmp_zero _ _).2 rfl) h
def BndP (xs : List Pair2) (q : Pair2) (lo hi : Nat) : Prop :=
 (∀ (t : Nat) (f : Pair2),xs[t]? = some f→t < lo→ltPP f q)∧(∀ (t : Nat) (f : Pair2),xs[t]? = some f→hi≤t→¬ ltPP f q)
theorem BndP.start (xs : List Pair2) (q : Pair2) : BndP xs q 0 xs.length :=
 ⟨fun _ _ _ h=>absurd h (by omega),fun t f h1 h2=>by rw [List.getElem?_eq_none h2] at h1; cases h1⟩
theorem rises_lt {xs : List Pair2} (h : xs.Pairwise ltPP) {i j : Nat} {x y : Pair2} (hi : xs[i]? = some x) (hj : xs[j]? = some y) (hij : i < j) : ltPP x y:=by
 obtain ⟨h1,rfl⟩:=List.getElem?_eq_some_iff.1 hi;obtain ⟨h2,rfl⟩:=List.getElem?_eq_some_iff.1 hj;exact List.pairwise_iff_getElem.1 h i j h1 h2 hij
theorem BndP.up {xs : List Pair2} {q : Pair2} {lo hi m : Nat} {y : Pair2} (h : BndP xs q lo hi) (hr : xs.Pairwise ltPP) (hy : xs[m]? = some y) (hc : ltPP y q) : BndP xs q (m+1) hi:=by
 refine ⟨fun t f hf ht=>?_,h.2⟩;by_cases e : t = m
 ·subst e; rw [hf] at hy; cases hy; exact hc
 ·exact ltPP_trans (rises_lt hr hf hy (by omega)) hc
theorem BndP.down {xs : List Pair2} {q : Pair2} {lo hi m : Nat} {y : Pair2} (h : BndP xs q lo hi) (hr : xs.Pairwise ltPP) (hy : xs[m]? = some y) (hc : ¬ ltPP y q) : BndP xs q lo m:=by
 refine ⟨h.1,fun t f hf ht hb=>?_⟩;by_cases e : t = m
 ·subst e; rw [hf] at hy; cases hy; exact hc hb
 ·exact hc (ltPP_trans (rises_lt hr hy hf (by omega)) hb)
theorem ltPP_irrefl {x y : Pair2} (h1 : y.paper = x.paper) (h2 : y.person = x.person) : ¬ ltPP y x:=by
 unfold ltPP;rw [cmpP_zero.2 ⟨h1,h2⟩];omega
theorem foundP {xs : List Pair2} {q y : Pair2} {lo : Nat} (hr : xs.Pairwise ltPP) (hb : BndP xs q lo lo) (hy : xs[lo]? = some y) : inP xs q.paper q.person = decide (cmpP y.paper y.person q.paper q.person = 0):=by
 by_cases e : cmpP y.paper y.person q.paper q.person = 0
 ·rw [decide_eq_true e];rw [inP,List.any_eq_true];exact ⟨y,List.mem_of_getElem? hy,by simpa using cmpP_zero.1 e⟩
 ·rw [decide_eq_false e]
  cases hin : inP xs q.paper q.person with
  | false=>rfl
  | true =>
   exfalso;rw [inP,List.any_eq_true] at hin;obtain ⟨z,hz,hzq⟩:=hin;(have hzq' : z.paper = q.paper∧z.person = q.person:=by simpa using hzq);obtain ⟨t,ht⟩:=List.getElem?_of_mem hz;by_cases h1 : t < lo
   ·exact ltPP_irrefl hzq'.1 hzq'.2 (hb.1 t z ht h1)
   ·by_cases h2 : t = lo
    ·subst h2; rw [hy] at ht; cases ht; exact e (cmpP_zero.2 hzq')
    ·have h3:=rises_lt hr hy ht (by omega);unfold ltPP at h3;rw [hzq'.1,hzq'.2] at h3;exact hb.2 lo y hy (Nat.le_refl _) h3
theorem foundP_no {xs : List Pair2} {q : Pair2} (hb : BndP xs q xs.length xs.length) : inP xs q.paper q.person = false:=by
 cases hin : inP xs q.paper q.person with
 | false=>rfl
 | true =>
  exfalso;rw [inP,List.any_eq_true] at hin;obtain ⟨z,hz,hzq⟩:=hin;(have hzq' : z.paper = q.paper∧z.person = q.person:=by simpa using hzq);obtain ⟨t,ht⟩:=List.getElem?_of_mem hz;have hl:=(List.getElem?_eq_some_iff.1 ht).1;exact ltPP_irrefl hzq'.1 hzq'.2 (hb.1 t z ht hl)

def SearchPost (xs : List Pair2) (q : Pair2) (w : World) (e : Ending) (w' : World) : Prop:=(∃ n : Int,e = .returned (.tuple #[.int .i64 n,.bool (inP xs q.paper q.person)]))∧All w w'

set_option maxRecDepth 100000 in
set_option maxHeartbeats 3200000 in
theorem binSearchP_any (a : Option Addr) (len cap : Nat) (xs : List Pair2) (q : Pair2) (w : World) (hs : Sl RPair 2 (fun _=>True) w a len xs) (hl : len≤1000000) (hr : xs.Pairwise ltPP) :
  Calls Tryz.prog 151 #[.slice a len cap,.agg #[.string q.paper,.string q.person],.func (.func 152) #[] #[]] w (SearchPost xs q w):=by
 have Hlen:=Lib.hid hs.len;have HR:=Lib.hid hr;have HB:=Lib.hid (BndP.start xs q);have eg : ∀ args w,(callFunc 152 args).run Tryz.prog w = .ok (.enter 152 args) w:=enters_of Tryz.func152 (by kernel_rfl) rfl;have hk1 : All w (w.alloc (.cells #[.string q.paper,.string q.person] 39)):=Kept.alloc _ _ _;have hblk:=heap_at w (.cells #[.string q.paper,.string q.person] 39) _ rfl;have r0:=cell_at (i:=0) hblk rfl;have r1:=cell_at (i:=1) hblk rfl;have HQ:=Lib.hid (fun (wx : World) (k : All (w.alloc (.cells #[.string q.paper,.string q.person] 39)) wx)=>(⟨k.cell r0 trivial,k.cell r1 trivial⟩ : _∧_));have hs1:=hs.keep RPair.ok hk1;obtain ⟨tb,htb⟩ : ∃ b,b = w.heap.size:=⟨_,rfl⟩;rw [← htb] at HQ;have Htb:=Lib.hid htb;clear hr hblk r0 r1 hs htb;(go_enter Tryz.func151,Tryz.ntmps151);(go_wp2_with fail);rw [← Htb.out];clear Htb;generalize w.alloc (.cells #[.string q.paper,.string q.person] 39) = w1 at *;go_loopw [9,10] (fun i j wr=>∃ lo hi : Nat,i = .int .i64 lo∧j = .int .i64 hi∧lo≤hi∧hi≤len∧BndP xs q lo hi∧All w1 wr) (fun i j _=>(intOf j - intOf i).toNat)
 case atStart=>exact ⟨0,len,rfl,rfl,Nat.zero_le _,Nat.le_refl _,by have:=HB.out; rw [Hlen.out] at this; exact this,Kept.refl _ _⟩
 case round =>
  obtain ⟨lo,hi,rfl,rfl,hle,hhi,hb,hall⟩:=hrel;obtain ⟨wo,rfl⟩ : ∃ wo : World,wo = wr:=⟨_,rfl⟩;obtain ⟨r0,r1⟩:=HQ.out _ hall;by_cases hlt : lo < hi
  ·obtain ⟨m,hm⟩ : ∃ m,m = (lo+hi) / 2:=⟨_,rfl⟩;have Hm:=Lib.hid hm;have Hmi:=Lib.hid (show ((lo : Int)+(hi : Int)) / 2 = (m : Int) by omega);(have hml : m < hi:=by omega);(have hml2 : lo≤m:=by omega);obtain ⟨b,off,y,ha,-,c0,c1,hy,-,-⟩:=(hs1.keep RPair.ok hall).atPair (k:=m) (by omega);subst ha;have Hy:=Lib.hid hy;have Hb:=Lib.hid hb;(have f4 : (m : Int) < (len : Int):=by omega);clear hy hb hs1 hm;by_cases hc : ltPP y q
   ·have hn:=Lib.hid (Hb.out.up HR.out Hy.out hc);have hd : decide (cmpP y.paper y.person q.paper q.person < 0) = true:=decide_eq_true hc;clear hc;(go_wp2_with fail);rw [Hmi.out]
    go_region_held3 (fun w'=>w'.cell? ⟨b,off+m*2,none⟩ = some (.string y.paper)∧w'.cell? ⟨b,off+m*2+1,none⟩ = some (.string y.person)∧w'.cell? ⟨tb,0,none⟩ = some (.string q.paper)∧w'.cell? ⟨tb,1,none⟩ = some (.string q.person)) (first | go_keep | exact ⟨by assumption,by assumption,by assumption,by assumption⟩) (first | (go_at_call 152; refine (comparePairs_any _ _ _ _ _).mono ?_; rintro e wq ⟨rfl,hq⟩; have hp1 : All wo wq:=Kept.trans (by repeat (first | exact Kept.refl _ _ | refine Kept.then_drew ?_ | refine Kept.then_drewN ?_ _ | refine Kept.then_alloc ?_ _)) hq; have a0:=hp1.cell c0 trivial; have a1:=hp1.cell c1 trivial; have a2:=hp1.cell r0 trivial; have a3:=hp1.cell r1 trivial))
    (go_wp2_with fail);go_roundw
    case rel=>exact ⟨m+1,hi,by go_num,rfl,by omega,hhi,hn.out,hall.trans hp1⟩
    case measure=>simp [intOf]; omega
   ·have hn:=Lib.hid (Hb.out.down HR.out Hy.out hc);have hd : decide (cmpP y.paper y.person q.paper q.person < 0) = false:=decide_eq_false hc;clear hc;(go_wp2_with fail);rw [Hmi.out]
    go_region_held3 (fun w'=>w'.cell? ⟨b,off+m*2,none⟩ = some (.string y.paper)∧w'.cell? ⟨b,off+m*2+1,none⟩ = some (.string y.person)∧w'.cell? ⟨tb,0,none⟩ = some (.string q.paper)∧w'.cell? ⟨tb,1,none⟩ = some (.string q.person)) (first | go_keep | exact ⟨by assumption,by assumption,by assumption,by assumption⟩) (first | (go_at_call 152; refine (comparePairs_any _ _ _ _ _).mono ?_; rintro e wq ⟨rfl,hq⟩; have hp1 : All wo wq:=Kept.trans (by repeat (first | exact Kept.refl _ _ | refine Kept.then_drew ?_ | refine Kept.then_drewN ?_ _ | refine Kept.then_alloc ?_ _)) hq; have a0:=hp1.cell c0 trivial; have a1:=hp1.cell c1 trivial; have a2:=hp1.cell r0 trivial; have a3:=hp1.cell r1 trivial))
    (go_wp2_with fail);go_roundw
    case rel=>exact ⟨lo,m,rfl,by go_num,by omega,by omega,hn.out,hall.trans hp1⟩
    case measure=>simp [intOf]; omega
  ·(have hd : decide ((lo : Int) < (hi : Int)) = false:=by simp; omega);have hb2 : BndP xs q lo lo:=by
    (have he : hi = lo:=by omega);rw [he] at hb; exact hb
   have Hb2:=Lib.hid hb2;clear hb hb2;by_cases hll : lo < len
   ·obtain ⟨b,off,y,ha,-,c0,c1,hy,-,-⟩:=(hs1.keep RPair.ok hall).atPair hll;subst ha;have hfo:=Lib.hid (foundP HR.out Hb2.out hy);(have f4 : (lo : Int) < (len : Int):=by omega);clear hy hs1;by_cases hz : cmpP y.paper y.person q.paper q.person = 0
    ·(have dz : (cmpP y.paper y.person q.paper q.person == 0) = true:=by simp [hz]);have hfo2:=Lib.hid (hfo.out.trans (decide_eq_true hz));clear hz;go_wp2_with fail
     go_region_held3 (fun w'=>w'.cell? ⟨b,off+lo*2,none⟩ = some (.string y.paper)∧w'.cell? ⟨b,off+lo*2+1,none⟩ = some (.string y.person)∧w'.cell? ⟨tb,0,none⟩ = some (.string q.paper)∧w'.cell? ⟨tb,1,none⟩ = some (.string q.person)) (first | go_keep | exact ⟨by assumption,by assumption,by assumption,by assumption⟩) (first | (go_at_call 152; refine (comparePairs_any _ _ _ _ _).mono ?_; rintro e wq ⟨rfl,hq⟩; have hp1 : All wo wq:=Kept.trans (by repeat (first | exact Kept.refl _ _ | refine Kept.then_drew ?_ | refine Kept.then_drewN ?_ _ | refine Kept.then_alloc ?_ _)) hq; have a0:=hp1.cell c0 trivial; have a1:=hp1.cell c1 trivial; have a2:=hp1.cell r0 trivial; have a3:=hp1.cell r1 trivial))
     (go_wp2_with fail);go_ret2;exact ⟨⟨(lo : Int),by rw [hfo2.out]; rfl⟩,hk1.trans (hall.trans hp1)⟩
    ·(have dz : (cmpP y.paper y.person q.paper q.person == 0) = false:=by simp [hz]);have hfo2:=Lib.hid (hfo.out.trans (decide_eq_false hz));clear hz;go_wp2_with fail
     go_region_held3 (fun w'=>w'.cell? ⟨b,off+lo*2,none⟩ = some (.string y.paper)∧w'.cell? ⟨b,off+lo*2+1,none⟩ = some (.string y.person)∧w'.cell? ⟨tb,0,none⟩ = some (.string q.paper)∧w'.cell? ⟨tb,1,none⟩ = some (.string q.person)) (first | go_keep | exact ⟨by assumption,by assumption,by assumption,by assumption⟩) (first | (go_at_call 152; refine (comparePairs_any _ _ _ _ _).mono ?_; rintro e wq ⟨rfl,hq⟩; have hp1 : All wo wq:=Kept.trans (by repeat (first | exact Kept.refl _ _ | refine Kept.then_drew ?_ | refine Kept.then_drewN ?_ _ | refine Kept.then_alloc ?_ _)) hq; have a0:=hp1.cell c0 trivial; have a1:=hp1.cell c1 trivial; have a2:=hp1.cell r0 trivial; have a3:=hp1.cell r1 trivial))
     (go_wp2_with fail);go_ret2;exact ⟨⟨(lo : Int),by rw [hfo2.out]; rfl⟩,hk1.trans (hall.trans hp1)⟩
   ·(have hd2 : decide ((lo : Int) < (len : Int)) = false:=by simp; omega);(have hlo : lo = xs.length:=by have:=Hlen.out; omega);have hfo2:=Lib.hid (foundP_no (xs:=xs) (q:=q) (by rw [← hlo]; exact Hb2.out));clear hs1 hlo;go_wp2_with fail
    go_quiet (fail)
    (go_wp2_with fail);go_ret2;exact ⟨⟨(lo : Int),by rw [hfo2.out]; rfl⟩,hk1.trans (hall.then_drewN _)⟩


def BoardAt (bb : Nat) (v0 v1 v2 v3 : Value) (w : World) : Prop:=w.cell? ⟨bb,0,none⟩ = some v0∧w.cell? ⟨bb,1,none⟩ = some v1∧w.cell? ⟨bb,2,none⟩ = some v2∧w.cell? ⟨bb,3,none⟩ = some v3
theorem BoardAt.keep {bb : Nat} {v0 v1 v2 v3 : Value} {w w' : World} (h : BoardAt bb v0 v1 v2 v3 w) (k : All w w') : BoardAt bb v0 v1 v2 v3 w':=⟨k.cell h.1 trivial,k.cell h.2.1 trivial,k.cell h.2.2.1 trivial,k.cell h.2.2.2 trivial⟩


end Go.Proofs.YtjbaijgdkkccbaaGreatDoor

/- isIn of package review. -/
namespace Go.Proofs.YtjbaijgdkkccbaaGreatDoor
open Go.RowKit

theorem isInR_any (a : Option Addr) (len cap : Nat) (xs : List Pair2) (q : Pair2) (w : World) (hs : Sl RPair 2 (fun _=>True) w a len xs) (hl : len≤1000000) (hr : xs.Pairwise ltPP) :
  Calls Tryz.prog 74 #[.slice a len cap,.agg #[.string q.paper,.string q.person]] w fun e w'=>e = .returned (.bool (inP xs q.paper q.person))∧All w w':=by
 have hk1 : All w (w.alloc (.cells #[.string q.paper,.string q.person] 39)):=Kept.alloc _ _ _;have hB:=Lib.hid (binSearchP_any a len cap xs q _ (hs.keep RPair.ok hk1) hl hr);clear hs hr;(go_enter Tryz.func74,Tryz.ntmps74);(go_wp2_with fail);refine hB.out.mono ?_;rintro e w' ⟨⟨n,rfl⟩,hw⟩;(go_wp2_with fail);go_ret;exact ⟨rfl,hk1.trans hw⟩
end Go.Proofs.YtjbaijgdkkccbaaGreatDoor
