/- Where a question is, where an answer is. -/
import Derived.Test.YtjbaijgdkkccbaaGreatDoorAa
import Derived.Test.YtjbaijgdkkccbaaGreatDoorKb
import Derived.Test.YtjbaijgdkkccbaaGreatDoorKc
import Derived.Deep.CutBlock
import Derived.Deep.DeepCutAuto
import Derived.Test.YtjbaijgdkkccbaaGreatDoorDh
import Derived.Deep.RegionHeld3
namespace Go.Proofs.YtjbaijgdkkccbaaGreatDoor
open Go.RowKit

def AnswersQ (P : Program) (g : FuncId) (caps : Array Value) (w : World) (p : Qst→Bool) : Prop :=
 ∀ (y : Qst) (oa : Option Addr) (oc : Nat) (wx : World),All w wx→Calls P g (#[.agg #[.string y.key,.int .i64 y.kind,.int .i64 y.most,.slice oa y.opts.length oc,.bool y.needed,.bool y.secret]] ++ caps) wx fun e w'=>e = .returned (.bool (p y))∧All wx w'
set_option maxHeartbeats 1600000 in
theorem indexQst_any (g : FuncId) (caps : Array Value) (eg : ∀ args w,(callFunc g args).run Tryz.prog w = .ok (.enter g args) w) (p : Qst→Bool)
  (a : Option Addr) (len cap : Nat) (ss : List Qst) (w : World) (hs : Sl RQst 6 (fun _=>True) w a len ss) (hl : len≤1000000) (hp : AnswersQ Tryz.prog g caps w p) :
  Calls Tryz.prog 166 #[.slice a len cap,.func (.func g) #[] caps] w fun e w'=>e = .returned (.int .i64 (findG p 0 ss))∧All w w':=by
 have hlen:=hs.len;have HP:=Lib.hid hp;clear hp;(go_enter Tryz.func166,Tryz.ntmps166);(go_wp2);go_loopw [5,8] (fun _ i wr=>∃ k : Nat,k≤len∧i = .int .i64 k∧(ss.take k).any p = false∧All w wr) (fun _ i _=>len - (intOf i).toNat)
 case atStart=>exact ⟨0,Nat.zero_le _,rfl,by simp,Kept.refl _ _⟩
 case round =>
  obtain ⟨k,hk,rfl,hnot,hall⟩:=hrel;by_cases hlt : k < len
  ·obtain ⟨b,off,y,oa,oc,ha,-,c0,c1,c2,c3,c4,c5,-,-,-,hy,htake⟩:=(hs.keep RQst.ok hall).atQst hlt;(have hltake : (ss.take k).length = k:=by simp; omega);(have hsplit : ss = ss.take k ++ y :: ss.drop (k+1):=by rw [← drop_at hy,List.take_append_drop]);have Hsplit:=Lib.hid hsplit;have Htake:=Lib.hid htake;have Hl:=Lib.hid hltake;have Hnot:=Lib.hid hnot;clear hsplit htake hltake hlen hnot hy;subst ha;clear hs
   cases hpy : p y with
   | true =>
    (have hfin : findG p 0 ss = k:=by rw [Hsplit.out,findG_append Hnot.out,Hl.out,findG,if_pos hpy]; simp);have Hfin:=Lib.hid hfin;clear hfin;(go_wp2_with fail);refine (HP.out y oa oc _ hall).mono ?_;rintro e w' ⟨rfl,hw⟩;rw [hpy];(go_wp2_with fail);go_ret;exact ⟨ret_int' Hfin.out.symm,hall.trans hw⟩
   | false =>
    (go_wp2_with fail);refine (HP.out y oa oc _ hall).mono ?_;rintro e w' ⟨rfl,hw⟩;rw [hpy];(go_wp2_with fail);go_roundw
    case rel=>exact ⟨k+1,by omega,by go_num,by rw [Htake.out,List.any_append,Hnot.out]; simp [hpy],hall.trans hw⟩
    case measure=>simp [intOf]; omega
  ·(have hd : decide ((k : Int) < (len : Int)) = false:=by simp; omega);have hfin : findG p 0 ss = -1:=findG_neg (by rw [List.take_of_length_le (by omega)] at hnot; exact hnot);have Hfin:=Lib.hid hfin;clear hfin;(go_wp2);go_ret;exact ⟨ret_int' Hfin.out.symm,hall⟩

def AnswersA (P : Program) (g : FuncId) (caps : Array Value) (w : World) (p : Ans4→Bool) : Prop :=
 ∀ (y : Ans4) (wx : World),All w wx→Calls P g (#[ansVal y] ++ caps) wx fun e w'=>e = .returned (.bool (p y))∧All wx w'
set_option maxHeartbeats 1600000 in
theorem indexAns_any (g : FuncId) (caps : Array Value) (eg : ∀ args w,(callFunc g args).run Tryz.prog w = .ok (.enter g args) w) (p : Ans4→Bool)
  (a : Option Addr) (len cap : Nat) (ss : List Ans4) (w : World) (hs : Sl RAns 4 (fun _=>True) w a len ss) (hl : len≤1000000) (hp : AnswersA Tryz.prog g caps w p) :
  Calls Tryz.prog 165 #[.slice a len cap,.func (.func g) #[] caps] w fun e w'=>e = .returned (.int .i64 (findG p 0 ss))∧All w w':=by
 have hlen:=hs.len;have HP:=Lib.hid hp;clear hp;(go_enter Tryz.func165,Tryz.ntmps165);(go_wp2);go_loopw [5,8] (fun _ i wr=>∃ k : Nat,k≤len∧i = .int .i64 k∧(ss.take k).any p = false∧All w wr) (fun _ i _=>len - (intOf i).toNat)
 case atStart=>exact ⟨0,Nat.zero_le _,rfl,by simp,Kept.refl _ _⟩
 case round =>
  obtain ⟨k,hk,rfl,hnot,hall⟩:=hrel;by_cases hlt : k < len
  ·obtain ⟨b,off,y,ha,-,c0,c1,c2,c3,-,hy,htake⟩:=(hs.keep RAns.ok hall).atAns hlt;(have hltake : (ss.take k).length = k:=by simp; omega);(have hsplit : ss = ss.take k ++ y :: ss.drop (k+1):=by rw [← drop_at hy,List.take_append_drop]);have Hsplit:=Lib.hid hsplit;have Htake:=Lib.hid htake;have Hl:=Lib.hid hltake;have Hnot:=Lib.hid hnot;clear hsplit htake hltake hlen hnot hy;subst ha;clear hs
   cases hpy : p y with
   | true =>
    (have hfin : findG p 0 ss = k:=by rw [Hsplit.out,findG_append Hnot.out,Hl.out,findG,if_pos hpy]; simp);have Hfin:=Lib.hid hfin;clear hfin;(go_wp2_with fail);refine (HP.out y _ hall).mono ?_;rintro e w' ⟨rfl,hw⟩;rw [hpy];(go_wp2_with fail);go_ret;exact ⟨ret_int' Hfin.out.symm,hall.trans hw⟩
   | false =>
    (go_wp2_with fail);refine (HP.out y _ hall).mono ?_;rintro e w' ⟨rfl,hw⟩;rw [hpy];(go_wp2_with fail);go_roundw
    case rel=>exact ⟨k+1,by omega,by go_num,by rw [Htake.out,List.any_append,Hnot.out]; simp [hpy],hall.trans hw⟩
    case measure=>simp [intOf]; omega
  ·(have hd : decide ((k : Int) < (len : Int)) = false:=by simp; omega);have hfin : findG p 0 ss = -1:=findG_neg (by rw [List.take_of_length_le (by omega)] at hnot; exact hnot);have Hfin:=Lib.hid hfin;clear hfin;(go_wp2);go_ret;exact ⟨ret_int' Hfin.out.symm,hall⟩

theorem containsAns_any (g : FuncId) (caps : Array Value) (eg : ∀ args w,(callFunc g args).run Tryz.prog w = .ok (.enter g args) w) (p : Ans4→Bool)
  (a : Option Addr) (len cap : Nat) (ss : List Ans4) (w : World) (hs : Sl RAns 4 (fun _=>True) w a len ss) (hl : len≤1000000) (hp : AnswersA Tryz.prog g caps w p) :
  Calls Tryz.prog 316 #[.slice a len cap,.func (.func g) #[] caps] w fun e w'=>e = .returned (.bool (ss.any p))∧All w w':=by
 have hI:=Lib.hid (indexAns_any g caps eg p a len cap ss w hs hl hp);clear hp
 cases hx : ss.any p with
 | true =>
  have h0:=findG_nonneg (k:=0) hx;clear hx;(go_enter Tryz.func316,Tryz.ntmps316);(go_wp2_with fail);refine hI.out.mono ?_;rintro e w' ⟨rfl,hw⟩;(go_wp2);go_ret;exact ⟨rfl,hw⟩
 | false =>
  have h0:=findG_neg (k:=0) hx;clear hx;(go_enter Tryz.func316,Tryz.ntmps316);(go_wp2_with fail);refine hI.out.mono ?_;rintro e w' ⟨rfl,hw⟩;rw [h0];(go_wp2);go_ret;exact ⟨rfl,hw⟩

theorem place1_any (kp : Nat) (p : ByteArray) (y : Qst) (oa : Option Addr) (oc : Nat) (w : World) (ck : w.cell? ⟨kp,0,none⟩ = some (.string p)) :
  Calls Tryz.prog 244 #[.agg #[.string y.key,.int .i64 y.kind,.int .i64 y.most,.slice oa y.opts.length oc,.bool y.needed,.bool y.secret],.pointer (some ⟨kp,0,none⟩)] w fun e w'=>e = .returned (.bool (isQ p y))∧All w w':=by
 have hkp:=lt_of_cell ck;dsimp only at hkp;have e1 : (y.key.toList == p.toList) = isQ p y:=by
  by_cases h : y.key = p
  ·simp [isQ,h]
  ·(have h2 : (y.key.toList == p.toList) = false:=by simp; exact fun e=>h (bytes_ext e));rw [h2]; simp [isQ,h]
 generalize isQ p y = b at e1 ⊢;(go_enter Tryz.func244,Tryz.ntmps244);(go_wp2_with fail);go_ret;exact ⟨rfl,Kept.alloc _ _ _⟩

theorem questionAt1_any (kp : Nat) (p : ByteArray) (y : Qst) (oa : Option Addr) (oc : Nat) (w : World) (ck : w.cell? ⟨kp,0,none⟩ = some (.string p)) :
  Calls Tryz.prog 167 #[.agg #[.string y.key,.int .i64 y.kind,.int .i64 y.most,.slice oa y.opts.length oc,.bool y.needed,.bool y.secret],.pointer (some ⟨kp,0,none⟩)] w fun e w'=>e = .returned (.bool (isQ p y))∧All w w':=by
 have hkp:=lt_of_cell ck;dsimp only at hkp;have e1 : (y.key.toList == p.toList) = isQ p y:=by
  by_cases h : y.key = p
  ·simp [isQ,h]
  ·(have h2 : (y.key.toList == p.toList) = false:=by simp; exact fun e=>h (bytes_ext e));rw [h2]; simp [isQ,h]
 generalize isQ p y = b at e1 ⊢;(go_enter Tryz.func167,Tryz.ntmps167);(go_wp2_with fail);go_ret;exact ⟨rfl,Kept.alloc _ _ _⟩

theorem has1_any (kp : Nat) (p : ByteArray) (y : Ans4) (w : World) (ck : w.cell? ⟨kp,0,none⟩ = some (.string p)) :
  Calls Tryz.prog 346 #[ansVal y,.pointer (some ⟨kp,0,none⟩)] w fun e w'=>e = .returned (.bool (isA p y))∧All w w':=by
 have hkp:=lt_of_cell ck;dsimp only at hkp;have e1 : (y.question.toList == p.toList) = isA p y:=by
  by_cases h : y.question = p
  ·simp [isA,h]
  ·(have h2 : (y.question.toList == p.toList) = false:=by simp; exact fun e=>h (bytes_ext e));rw [h2]; simp [isA,h]
 generalize isA p y = b at e1 ⊢;(go_enter Tryz.func346,Tryz.ntmps346);(go_wp2_with fail);go_ret;exact ⟨rfl,Kept.alloc _ _ _⟩

theorem answered1_any (kp : Nat) (p : ByteArray) (y : Ans4) (w : World) (ck : w.cell? ⟨kp,0,none⟩ = some (.string p)) :
  Calls Tryz.prog 317 #[ansVal y,.pointer (some ⟨kp,0,none⟩)] w fun e w'=>e = .returned (.bool (isA p y))∧All w w':=by
 have hkp:=lt_of_cell ck;dsimp only at hkp;have e1 : (y.question.toList == p.toList) = isA p y:=by
  by_cases h : y.question = p
  ·simp [isA,h]
  ·(have h2 : (y.question.toList == p.toList) = false:=by simp; exact fun e=>h (bytes_ext e));rw [h2]; simp [isA,h]
 generalize isA p y = b at e1 ⊢;(go_enter Tryz.func317,Tryz.ntmps317);(go_wp2_with fail);go_ret;exact ⟨rfl,Kept.alloc _ _ _⟩


theorem place_any (a : Option Addr) (len cap : Nat) (xs : List Qst) (p : ByteArray) (w : World) (hs : Sl RQst 6 (fun _=>True) w a len xs) (hl : len≤1000000) :
  Calls Tryz.prog 163 #[.slice a len cap,.string p] w fun e w'=>e = .returned (.int .i64 (findG (isQ p) 0 xs))∧All w w':=by
 have hk1 : All w (w.alloc (.cells #[.string p] 9)):=Kept.alloc _ _ _;have ha:=heap_at w (.cells #[.string p] 9) _ rfl;have hans : AnswersQ Tryz.prog 244 #[.pointer (some ⟨w.heap.size,0,none⟩)] (w.alloc (.cells #[.string p] 9)) (isQ p):=fun y oa oc wx hwx =>
  place1_any _ p y oa oc wx (hwx.cell (cell_at ha rfl) trivial)
 have eg : ∀ args w,(callFunc 244 args).run Tryz.prog w = .ok (.enter 244 args) w:=enters_of Tryz.func244 (by kernel_rfl) rfl;have HF:=Lib.hid (indexQst_any 244 _ eg (isQ p) a len cap xs _ (hs.keep RQst.ok hk1) hl hans);have hmf':=hmfC;clear hans eg ha hs;(go_enter Tryz.func163,Tryz.ntmps163);(go_wp2_with fail);refine HF.out.mono ?_;rintro e w2 ⟨rfl,hw2⟩;(go_wp2_with fail);go_ret;exact ⟨rfl,hk1.trans hw2⟩

theorem questionAt_any (a : Option Addr) (len cap : Nat) (xs : List Qst) (p : ByteArray) (w : World) (hs : Sl RQst 6 (fun _=>True) w a len xs) (hl : len≤1000000) :
  Calls Tryz.prog 99 #[.slice a len cap,.string p] w fun e w'=>e = .returned (.int .i64 (findG (isQ p) 0 xs))∧All w w':=by
 have hk1 : All w (w.alloc (.cells #[.string p] 9)):=Kept.alloc _ _ _;have ha:=heap_at w (.cells #[.string p] 9) _ rfl;have hans : AnswersQ Tryz.prog 167 #[.pointer (some ⟨w.heap.size,0,none⟩)] (w.alloc (.cells #[.string p] 9)) (isQ p):=fun y oa oc wx hwx =>
  questionAt1_any _ p y oa oc wx (hwx.cell (cell_at ha rfl) trivial)
 have eg : ∀ args w,(callFunc 167 args).run Tryz.prog w = .ok (.enter 167 args) w:=enters_of Tryz.func167 (by kernel_rfl) rfl;have HF:=Lib.hid (indexQst_any 167 _ eg (isQ p) a len cap xs _ (hs.keep RQst.ok hk1) hl hans);have hmf':=hmfC;clear hans eg ha hs;(go_enter Tryz.func99,Tryz.ntmps99);(go_wp2_with fail);refine HF.out.mono ?_;rintro e w2 ⟨rfl,hw2⟩;(go_wp2_with fail);go_ret;exact ⟨rfl,hk1.trans hw2⟩

theorem has_any (a : Option Addr) (len cap : Nat) (xs : List Ans4) (p : ByteArray) (w : World) (hs : Sl RAns 4 (fun _=>True) w a len xs) (hl : len≤1000000) :
  Calls Tryz.prog 301 #[.slice a len cap,.string p] w fun e w'=>e = .returned (.bool (xs.any (isA p)))∧All w w':=by
 have hk1 : All w (w.alloc (.cells #[.string p] 9)):=Kept.alloc _ _ _;have ha:=heap_at w (.cells #[.string p] 9) _ rfl;have hans : AnswersA Tryz.prog 346 #[.pointer (some ⟨w.heap.size,0,none⟩)] (w.alloc (.cells #[.string p] 9)) (isA p):=fun y wx hwx =>
  has1_any _ p y wx (hwx.cell (cell_at ha rfl) trivial)
 have eg : ∀ args w,(callFunc 346 args).run Tryz.prog w = .ok (.enter 346 args) w:=enters_of Tryz.func346 (by kernel_rfl) rfl;have HF:=Lib.hid (containsAns_any 346 _ eg (isA p) a len cap xs _ (hs.keep RAns.ok hk1) hl hans);have hmf':=hmfC;clear hans eg ha hs;(go_enter Tryz.func301,Tryz.ntmps301);(go_wp2_with fail);refine HF.out.mono ?_;rintro e w2 ⟨rfl,hw2⟩;(go_wp2_with fail);go_ret;exact ⟨rfl,hk1.trans hw2⟩

theorem answered_any (a : Option Addr) (len cap : Nat) (xs : List Ans4) (p : ByteArray) (w : World) (hs : Sl RAns 4 (fun _=>True) w a len xs) (hl : len≤1000000) :
  Calls Tryz.prog 250 #[.slice a len cap,.string p] w fun e w'=>e = .returned (.bool (xs.any (isA p)))∧All w w':=by
 have hk1 : All w (w.alloc (.cells #[.string p] 9)):=Kept.alloc _ _ _;have ha:=heap_at w (.cells #[.string p] 9) _ rfl;have hans : AnswersA Tryz.prog 317 #[.pointer (some ⟨w.heap.size,0,none⟩)] (w.alloc (.cells #[.string p] 9)) (isA p):=fun y wx hwx =>
  answered1_any _ p y wx (hwx.cell (cell_at ha rfl) trivial)
 have eg : ∀ args w,(callFunc 317 args).run Tryz.prog w = .ok (.enter 317 args) w:=enters_of Tryz.func317 (by kernel_rfl) rfl;have HF:=Lib.hid (containsAns_any 317 _ eg (isA p) a len cap xs _ (hs.keep RAns.ok hk1) hl hans);have hmf':=hmfC;clear hans eg ha hs;(go_enter Tryz.func250,Tryz.ntmps250);(go_wp2_with fail);refine HF.out.mono ?_;rintro e w2 ⟨rfl,hw2⟩;(go_wp2_with fail);go_ret;exact ⟨rfl,hk1.trans hw2⟩

end Go.Proofs.YtjbaijgdkkccbaaGreatDoor

/- Sheets: differentKeys, questionFault, CheckSheet, SheetFault. -/
namespace Go.Proofs.YtjbaijgdkkccbaaGreatDoor
open Go.RowKit


set_option maxHeartbeats 1600000 in
theorem differentKeys_any (a : Option Addr) (len cap : Nat) (ss : List ByteArray) (w : World) (hs : Sl RStr 1 (fun _=>True) w a len ss) (hl : len≤1000000) (hcap : len≤cap) :
  Calls Tryz.prog 251 #[.slice a len cap] w fun e w'=>e = .returned (.int .i64 (orderG [] ss))∧All w w':=by
 have Hlen:=Lib.hid hs.len;(go_enter Tryz.func251,Tryz.ntmps251);(go_wp2_with fail);go_loopw [7] (fun i wr=>∃ k : Nat,k≤len∧i = .int .i64 k∧OrderAt ss k∧All w wr) (fun i _=>len - (intOf i).toNat)
 case atStart=>exact ⟨0,Nat.zero_le _,rfl,OrderAt.zero _,Kept.refl _ _⟩
 case round =>
  obtain ⟨k,hk,rfl,hat,hwr⟩:=hrel;obtain ⟨wo,rfl⟩ : ∃ wo : World,wo = wr:=⟨_,rfl⟩;have HA:=Lib.hid hat
  clear hat
  by_cases hlt : k < len
  ·have hsk:=hs.keep RStr.ok hwr;obtain ⟨b,off,y,ha,-,c0,hz,hy,-,htk⟩:=hsk.atStr hlt;subst ha;have HY:=Lib.hid hy;have HSL:=Lib.hid (fun (wx : World) (h : All wo wx)=>(hsk.keep RStr.ok h).take (k:=k) (by omega));clear hy htk hs hsk
   cases hky : isKeyB y with
   | false =>
    (go_wp2_with fail);refine (isKey_any _ _ (by omega)).mono ?_;rintro e w2 ⟨rfl,hh⟩;subst hh;rw [hky];(go_wp2_with fail);go_ret;exact ⟨ret_int' (HA.out.name HY.out hky).symm,hwr⟩
   | true =>
    have HK:=Lib.hid hky
    cases hme : memB y (ss.take k) with
    | true =>
     have HM:=Lib.hid hme;(go_wp2_with fail);refine (isKey_any _ _ (by omega)).mono ?_;rintro e w2 ⟨rfl,hh⟩;subst hh;rw [hky];(go_wp2_with fail);refine (contains_any _ k cap (ss.take k) y _ (HSL.out _ (Kept.refl _ _)) (by omega)).mono ?_;rintro e w3 ⟨rfl,hh⟩;subst hh;rw [hme];(go_wp2_with fail);go_ret;exact ⟨ret_int' (HA.out.twice HY.out HK.out HM.out).symm,hwr⟩
    | false =>
     have HM:=Lib.hid hme;(go_wp2_with fail);refine (isKey_any _ _ (by omega)).mono ?_;rintro e w2 ⟨rfl,hh⟩;subst hh;rw [hky];(go_wp2_with fail);refine (contains_any _ k cap (ss.take k) y _ (HSL.out _ (Kept.refl _ _)) (by omega)).mono ?_;rintro e w3 ⟨rfl,hh⟩;subst hh;rw [hme];(go_wp2_with fail);go_roundw
     case rel=>exact ⟨k+1,by omega,by go_num,HA.out.next HY.out HK.out HM.out,hwr⟩
     case measure=>simp [intOf]; omega
  ·(have hdk : decide ((k : Int) < (len : Int)) = false:=by simp; omega);(go_wp2_with fail);go_ret;exact ⟨ret_int' (HA.out.ok (by have:=Hlen.out; omega)).symm,hwr⟩

set_option maxRecDepth 100000 in
set_option maxHeartbeats 3200000 in
theorem questionFault_any (q : Qst) (oa : Option Addr) (oc : Nat) (w : World) (hsm : QstSmall q) (hcp : q.opts.length≤oc) (hs : Sl RStr 1 (fun _=>True) w oa q.opts.length q.opts) :
  Calls Tryz.prog 179 #[.agg #[.string q.key,.int .i64 q.kind,.int .i64 q.most,.slice oa q.opts.length oc,.bool q.needed,.bool q.secret]] w fun e w'=>e = .returned (.int .i64 (questF q))∧All w w':=by
 obtain ⟨key,kind,most,opts,needed,secret⟩:=q;obtain ⟨-,hsm⟩:=hsm;dsimp only at *;obtain ⟨m,hm⟩ : ∃ m,m = opts.length:=⟨_,rfl⟩;have HM:=Lib.hid hm;rw [← hm] at hs hcp hsm ⊢;clear hm;have hk1 : All w (w.alloc (.cells #[.string key,.int .i64 kind,.int .i64 most,.slice oa m oc,.bool needed,.bool secret] 146)):=Kept.alloc _ _ _;have hblk:=heap_at w (.cells #[.string key,.int .i64 kind,.int .i64 most,.slice oa m oc,.bool needed,.bool secret] 146) _ rfl;have e0:=cell_at (i:=0) hblk rfl;have e1:=cell_at (i:=1) hblk rfl;have e2:=cell_at (i:=2) hblk rfl;have e3:=cell_at (i:=3) hblk rfl;have e4:=cell_at (i:=4) hblk rfl;have e5:=cell_at (i:=5) hblk rfl;have HD:=Lib.hid (differentKeys_any oa m oc opts _ (hs.keep RStr.ok hk1) (by omega) hcp);clear hblk hs;(go_enter Tryz.func179,Tryz.ntmps179);by_cases hkd : kind < 1∨3 < kind
 ·(have hd : decide (kind < (1 : Int)∨3 < kind) = true:=by simp; omega);have hfin:=Lib.hid (show questF ⟨key,kind,most,opts,needed,secret⟩ = 4 from by rw [questF,if_pos (by dsimp only; have:=HM.out; omega)])
  (try clear hm0)
  (go_wp2_with fail);refine (outside_any kind 1 3 _).mono ?_;rintro e wq ⟨rfl,hh⟩;subst hh;rw [hd];(go_wp2_with fail);go_ret;exact ⟨ret_int' hfin.out.symm,hk1⟩
 ·(have hk3 : kind = 1∨kind = 2∨kind = 3:=by omega);clear hkd;rcases hk3 with rfl | rfl | rfl
  ·by_cases hms : most < 1∨100 < most
   ·(have hd : decide (most < 1∨100 < most) = true:=by simp; omega);have hfin:=Lib.hid (show questF ⟨key,1,most,opts,needed,secret⟩ = 1 from by rw [questF,if_neg (by dsimp only; have:=HM.out; omega),if_pos (by dsimp only; have:=HM.out; omega)])
    (try clear hm0)
    (go_wp2_with fail);refine (outside_any 1 1 3 _).mono ?_;rintro e wq ⟨rfl,hh⟩;subst hh;rw [(show decide ((1 : Int) < (1 : Int)∨3 < (1 : Int)) = false from rfl)];(go_wp2_with fail);refine (outside_any most 1 100 _).mono ?_;rintro e wq ⟨rfl,hh⟩;subst hh;rw [hd];(go_wp2_with fail);go_ret;exact ⟨ret_int' hfin.out.symm,hk1⟩
   ·(have hd : decide (most < 1∨100 < most) = false:=by simp; omega);by_cases hm0 : m = 0
    ·(have h20 : decide ((20 : Int) < (m : Int)) = false:=by simp; omega);(have hg : decide (0 < m) = false:=by simp; omega);have HQ:=Lib.hid (show questF ⟨key,1,most,opts,needed,secret⟩ = orderG [] opts from by rw [questF,if_neg (by dsimp only; have:=HM.out; omega),if_neg (by dsimp only; have:=HM.out; omega),if_neg (by dsimp only; have:=HM.out; omega),if_neg (by dsimp only; have:=HM.out; omega)]);clear hm0 hms;(go_wp2_with fail);refine (outside_any 1 1 3 _).mono ?_;rintro e wq ⟨rfl,hh⟩;subst hh;rw [(show decide ((1 : Int) < (1 : Int)∨3 < (1 : Int)) = false from rfl)];(go_wp2_with fail);refine (outside_any most 1 100 _).mono ?_;rintro e wq ⟨rfl,hh⟩;subst hh;rw [hd];(go_wp2_with fail);refine HD.out.mono ?_;rintro e w2 ⟨rfl,hw2⟩;(go_wp2_with fail);go_ret;exact ⟨ret_int' HQ.out.symm,hk1.trans hw2⟩
    ·(have hg : decide (0 < m) = true:=by simp; omega);have hfin:=Lib.hid (show questF ⟨key,1,most,opts,needed,secret⟩ = 3 from by rw [questF,if_neg (by dsimp only; have:=HM.out; omega),if_neg (by dsimp only; have:=HM.out; omega),if_pos (by dsimp only; have:=HM.out; omega)])
     (try clear hm0)
     (go_wp2_with fail);refine (outside_any 1 1 3 _).mono ?_;rintro e wq ⟨rfl,hh⟩;subst hh;rw [(show decide ((1 : Int) < (1 : Int)∨3 < (1 : Int)) = false from rfl)];(go_wp2_with fail);refine (outside_any most 1 100 _).mono ?_;rintro e wq ⟨rfl,hh⟩;subst hh;rw [hd];(go_wp2_with fail);go_ret;exact ⟨ret_int' hfin.out.symm,hk1⟩
  ·by_cases hms : most = 0
   ·subst hms;by_cases hm0 : m = 0
    ·(have hg : decide (0 < m) = false:=by simp; omega);have hfin:=Lib.hid (show questF ⟨key,2,0,opts,needed,secret⟩ = 3 from by rw [questF,if_neg (by dsimp only; have:=HM.out; omega),if_neg (by dsimp only; have:=HM.out; omega),if_pos (by dsimp only; have:=HM.out; omega)])
     (try clear hm0)
     (go_wp2_with fail);refine (outside_any 2 1 3 _).mono ?_;rintro e wq ⟨rfl,hh⟩;subst hh;rw [(show decide ((2 : Int) < (1 : Int)∨3 < (2 : Int)) = false from rfl)];(go_wp2_with fail);go_ret;exact ⟨ret_int' hfin.out.symm,hk1⟩
    ·(have hg : decide (0 < m) = true:=by simp; omega);by_cases hmm : 20 < m
     ·(have h20 : decide ((20 : Int) < (m : Int)) = true:=by simp; omega);have hfin:=Lib.hid (show questF ⟨key,2,0,opts,needed,secret⟩ = 2 from by rw [questF,if_neg (by dsimp only; have:=HM.out; omega),if_neg (by dsimp only; have:=HM.out; omega),if_neg (by dsimp only; have:=HM.out; omega),if_pos (by dsimp only; have:=HM.out; omega)])
      (try clear hm0)
      (go_wp2_with fail);refine (outside_any 2 1 3 _).mono ?_;rintro e wq ⟨rfl,hh⟩;subst hh;rw [(show decide ((2 : Int) < (1 : Int)∨3 < (2 : Int)) = false from rfl)];(go_wp2_with fail);go_ret;exact ⟨ret_int' hfin.out.symm,hk1⟩
     ·(have h20 : decide ((20 : Int) < (m : Int)) = false:=by simp; omega);have HQ:=Lib.hid (show questF ⟨key,2,0,opts,needed,secret⟩ = orderG [] opts from by rw [questF,if_neg (by dsimp only; have:=HM.out; omega),if_neg (by dsimp only; have:=HM.out; omega),if_neg (by dsimp only; have:=HM.out; omega),if_neg (by dsimp only; have:=HM.out; omega)]);clear hm0 hmm;(go_wp2_with fail);refine (outside_any 2 1 3 _).mono ?_;rintro e wq ⟨rfl,hh⟩;subst hh;rw [(show decide ((2 : Int) < (1 : Int)∨3 < (2 : Int)) = false from rfl)];(go_wp2_with fail);refine HD.out.mono ?_;rintro e w2 ⟨rfl,hw2⟩;(go_wp2_with fail);go_ret;exact ⟨ret_int' HQ.out.symm,hk1.trans hw2⟩
   ·(have hmq : (most == 0) = false:=by simpa using hms);have hfin:=Lib.hid (show questF ⟨key,2,most,opts,needed,secret⟩ = 3 from by rw [questF,if_neg (by dsimp only; have:=HM.out; omega),if_neg (by dsimp only; have:=HM.out; omega),if_pos (by dsimp only; have:=HM.out; omega)])
    (try clear hm0)
    (go_wp2_with fail);refine (outside_any 2 1 3 _).mono ?_;rintro e wq ⟨rfl,hh⟩;subst hh;rw [(show decide ((2 : Int) < (1 : Int)∨3 < (2 : Int)) = false from rfl)];(go_wp2_with fail);go_ret;exact ⟨ret_int' hfin.out.symm,hk1⟩
  ·by_cases hms : most < 1∨5000 < most
   ·(have hd : decide (most < 1∨5000 < most) = true:=by simp; omega);have hfin:=Lib.hid (show questF ⟨key,3,most,opts,needed,secret⟩ = 1 from by rw [questF,if_neg (by dsimp only; have:=HM.out; omega),if_pos (by dsimp only; have:=HM.out; omega)])
    (try clear hm0)
    (go_wp2_with fail);refine (outside_any 3 1 3 _).mono ?_;rintro e wq ⟨rfl,hh⟩;subst hh;rw [(show decide ((3 : Int) < (1 : Int)∨3 < (3 : Int)) = false from rfl)];(go_wp2_with fail);refine (outside_any most 1 5000 _).mono ?_;rintro e wq ⟨rfl,hh⟩;subst hh;rw [hd];(go_wp2_with fail);go_ret;exact ⟨ret_int' hfin.out.symm,hk1⟩
   ·(have hd : decide (most < 1∨5000 < most) = false:=by simp; omega);by_cases hm0 : m = 0
    ·(have h20 : decide ((20 : Int) < (m : Int)) = false:=by simp; omega);(have hg : decide (0 < m) = false:=by simp; omega);have HQ:=Lib.hid (show questF ⟨key,3,most,opts,needed,secret⟩ = orderG [] opts from by rw [questF,if_neg (by dsimp only; have:=HM.out; omega),if_neg (by dsimp only; have:=HM.out; omega),if_neg (by dsimp only; have:=HM.out; omega),if_neg (by dsimp only; have:=HM.out; omega)]);clear hm0 hms;(go_wp2_with fail);refine (outside_any 3 1 3 _).mono ?_;rintro e wq ⟨rfl,hh⟩;subst hh;rw [(show decide ((3 : Int) < (1 : Int)∨3 < (3 : Int)) = false from rfl)];(go_wp2_with fail);refine (outside_any most 1 5000 _).mono ?_;rintro e wq ⟨rfl,hh⟩;subst hh;rw [hd];(go_wp2_with fail);refine HD.out.mono ?_;rintro e w2 ⟨rfl,hw2⟩;(go_wp2_with fail);go_ret;exact ⟨ret_int' HQ.out.symm,hk1.trans hw2⟩
    ·(have hg : decide (0 < m) = true:=by simp; omega);have hfin:=Lib.hid (show questF ⟨key,3,most,opts,needed,secret⟩ = 3 from by rw [questF,if_neg (by dsimp only; have:=HM.out; omega),if_neg (by dsimp only; have:=HM.out; omega),if_pos (by dsimp only; have:=HM.out; omega)])
     (try clear hm0)
     (go_wp2_with fail);refine (outside_any 3 1 3 _).mono ?_;rintro e wq ⟨rfl,hh⟩;subst hh;rw [(show decide ((3 : Int) < (1 : Int)∨3 < (3 : Int)) = false from rfl)];(go_wp2_with fail);refine (outside_any most 1 5000 _).mono ?_;rintro e wq ⟨rfl,hh⟩;subst hh;rw [hd];(go_wp2_with fail);go_ret;exact ⟨ret_int' hfin.out.symm,hk1⟩

set_option maxRecDepth 100000 in
set_option maxHeartbeats 3200000 in
theorem checkSheet_any (a : Option Addr) (len cap : Nat) (xs : List Qst) (w : World) (hs : Sl RQst 6 (fun _=>True) w a len xs) (hl : len≤1000000) :
  Calls Tryz.prog 111 #[.slice a len cap] w fun e w'=>e = .returned (.int .i64 (sheetF xs))∧All w w':=by
 have Hlen:=Lib.hid hs.len;by_cases hz : len = 0
 ·subst hz;have hfin:=Lib.hid (sheetF_none (xs:=xs) Hlen.out);clear hs;(go_enter Tryz.func111,Tryz.ntmps111);(go_wp2_with fail);go_ret;exact ⟨ret_int' hfin.out.symm,Kept.refl _ _⟩
 (have hz' : ((len : Int) == 0) = false:=by simp; omega);by_cases hbig : 30 < len
 ·have hfin:=Lib.hid (sheetF_large (xs:=xs) (by have:=Hlen.out; omega));(have hd : decide ((30 : Int) < (len : Int)) = true:=by simp; omega);clear hs;(go_enter Tryz.func111,Tryz.ntmps111);(go_wp2_with fail);go_ret;exact ⟨ret_int' hfin.out.symm,Kept.refl _ _⟩
 have hfin:=Lib.hid (sheetF_some (xs:=xs) (by have:=Hlen.out; omega) (by have:=Hlen.out; omega));(have hd : decide ((30 : Int) < (len : Int)) = false:=by simp; omega);clear hz;(go_enter Tryz.func111,Tryz.ntmps111);(go_wp2_with fail);go_loopw [14] (fun i wr=>∃ k : Nat,k≤len∧i = .int .i64 k∧SheetAt xs k∧All w wr) (fun i _=>len - (intOf i).toNat)
 case atStart=>exact ⟨0,Nat.zero_le _,rfl,SheetAt.zero _,Kept.refl _ _⟩
 case round =>
  obtain ⟨k,hk,rfl,hat,hwr⟩:=hrel;obtain ⟨wo,rfl⟩ : ∃ wo : World,wo = wr:=⟨_,rfl⟩;have HA:=Lib.hid hat
  clear hat
  by_cases hlt : k < len
  ·obtain ⟨b,off,q,oa,oc,ha,-,c0,c1,c2,c3,c4,c5,hcp,⟨hz1,hz2⟩,hos,hq,htk⟩:=(hs.keep RQst.ok hwr).atQst hlt;subst ha;have Hq:=Lib.hid hq;have hwa:=hwr.then_alloc (.cells #[.string q.key,.int .i64 q.kind,.int .i64 q.most,.slice oa q.opts.length oc,.bool q.needed,.bool q.secret] 146);have hko : All wo (wo.alloc (.cells #[.string q.key,.int .i64 q.kind,.int .i64 q.most,.slice oa q.opts.length oc,.bool q.needed,.bool q.secret] 146)):=Kept.alloc _ _ _;have hblk:=heap_at wo (.cells #[.string q.key,.int .i64 q.kind,.int .i64 q.most,.slice oa q.opts.length oc,.bool q.needed,.bool q.secret] 146) _ rfl;have e0:=cell_at (i:=0) hblk rfl;have e1:=cell_at (i:=1) hblk rfl;have e2:=cell_at (i:=2) hblk rfl;have e3:=cell_at (i:=3) hblk rfl;have e4:=cell_at (i:=4) hblk rfl;have e5:=cell_at (i:=5) hblk rfl;have HP:=Lib.hid (fun (wx : World) (h : All w wx)=>place_any (some ⟨b,off,none⟩) len cap xs q.key wx (hs.keep RQst.ok h) hl);have hos1:=hos.keep RStr.ok hko;have hz3 : q.key.size≤1000000:=hz1;clear hq htk hblk hs hos
   cases h1 : isKeyB q.key with
   | false =>
    (go_wp2_with fail);refine (isKey_any _ _ (by omega)).mono ?_;rintro e w2 ⟨rfl,hh⟩;subst hh;rw [h1];(go_wp2_with fail);go_ret;exact ⟨ret_int' (by rw [hfin.out]; exact (HA.out.name Hq.out h1).symm),hwa⟩
   | true =>
    have HK:=Lib.hid h1;obtain ⟨fi,hfi⟩ : ∃ fi,fi = findG (isQ q.key) 0 xs:=⟨_,rfl⟩;have HFI:=Lib.hid hfi;have hos3:=hos1;clear hos1 hfi;by_cases h2 : fi < (k : Int)
    ·(have hd2 : decide (fi < (k : Int)) = true:=by simpa using h2);have HB:=Lib.hid (HA.out.twice Hq.out HK.out (by rw [← HFI.out]; exact h2));(go_wp2_with fail);refine (isKey_any _ _ (by omega)).mono ?_;rintro e w2 ⟨rfl,hh⟩;subst hh;rw [h1];(go_wp2_with fail);refine (HP.out _ hwa).mono ?_;rintro e w3 ⟨rfl,hw3⟩;rw [← HFI.out];have hwb:=hwa.trans hw3;have f0:=hw3.cell e0 trivial;have f1:=hw3.cell e1 trivial;have f2:=hw3.cell e2 trivial;have f3:=hw3.cell e3 trivial;have f4:=hw3.cell e4 trivial;have f5:=hw3.cell e5 trivial;clear hwa;(go_wp2_with fail);go_ret;exact ⟨ret_int' (by rw [hfin.out]; exact (HB.out).symm),hwb⟩
    ·(have hd2 : decide (fi < (k : Int)) = false:=by simpa using h2);have HN:=Lib.hid (show (k : Int)≤findG (isQ q.key) 0 xs by rw [← HFI.out]; omega);obtain ⟨qf,hqf⟩ : ∃ z,z = questF q:=⟨_,rfl⟩;have HQF:=Lib.hid hqf;clear hqf;(go_wp2_with fail);refine (isKey_any _ _ (by omega)).mono ?_;rintro e w2 ⟨rfl,hh⟩;subst hh;rw [h1];(go_wp2_with fail);refine (HP.out _ hwa).mono ?_;rintro e w3 ⟨rfl,hw3⟩;rw [← HFI.out];have hwb:=hwa.trans hw3;have f0:=hw3.cell e0 trivial;have f1:=hw3.cell e1 trivial;have f2:=hw3.cell e2 trivial;have f3:=hw3.cell e3 trivial;have f4:=hw3.cell e4 trivial;have f5:=hw3.cell e5 trivial;clear hwa;have HQT:=Lib.hid (questionFault_any q oa oc _ ⟨hz1,hz2⟩ hcp (hos3.keep RStr.ok hw3));clear hos3 hw3;by_cases hq0 : qf = 0
     ·subst hq0;(go_wp2_with fail);refine HQT.out.mono ?_;rintro e w4 ⟨rfl,hw4⟩;rw [← HQF.out];(go_wp2_with fail);go_roundw
      case rel=>exact ⟨k+1,by omega,by go_num,HA.out.next Hq.out HK.out (Int.not_lt.2 HN.out) HQF.out.symm,hwb.trans hw4⟩
      case measure=>simp [intOf]; omega
     ·(have hq1 : (qf == 0) = false:=by simpa using hq0);have HB:=Lib.hid (HA.out.bad Hq.out HK.out (Int.not_lt.2 HN.out) HQF.out.symm hq0);(go_wp2_with fail);refine HQT.out.mono ?_;rintro e w4 ⟨rfl,hw4⟩;rw [← HQF.out];(go_wp2_with fail);go_ret;exact ⟨ret_int' (by rw [hfin.out]; exact (HB.out).symm),hwb.trans hw4⟩
  ·(have hdk : decide ((k : Int) < (len : Int)) = false:=by simp; omega);(go_wp2_with fail);go_ret;exact ⟨ret_int' (by rw [hfin.out]; exact (HA.out.ok (by have:=Hlen.out; omega)).symm),hwr⟩

set_option maxRecDepth 100000 in
set_option maxHeartbeats 3200000 in
theorem sheetFault_any (a : Option Addr) (len cap : Nat) (xs : List Qst) (w : World) (hs : Sl RQst 6 (fun _=>True) w a len xs) (hl : len≤1000000) :
  Calls Tryz.prog 44 #[.slice a len cap] w fun e w'=>e = .returned (.int .i64 (sheetF xs))∧All w w':=by
 have Hlen:=Lib.hid hs.len;by_cases hz : len = 0
 ·subst hz;have hfin:=Lib.hid (sheetF_none (xs:=xs) Hlen.out);clear hs;(go_enter Tryz.func44,Tryz.ntmps44);(go_wp2_with fail);go_ret;exact ⟨ret_int' hfin.out.symm,Kept.refl _ _⟩
 (have hz' : ((len : Int) == 0) = false:=by simp; omega);by_cases hbig : 30 < len
 ·have hfin:=Lib.hid (sheetF_large (xs:=xs) (by have:=Hlen.out; omega));(have hd : decide ((30 : Int) < (len : Int)) = true:=by simp; omega);clear hs;(go_enter Tryz.func44,Tryz.ntmps44);(go_wp2_with fail);go_ret;exact ⟨ret_int' hfin.out.symm,Kept.refl _ _⟩
 have hfin:=Lib.hid (sheetF_some (xs:=xs) (by have:=Hlen.out; omega) (by have:=Hlen.out; omega));(have hd : decide ((30 : Int) < (len : Int)) = false:=by simp; omega);clear hz;(go_enter Tryz.func44,Tryz.ntmps44);(go_wp2_with fail);go_loopw [17] (fun i wr=>∃ k : Nat,k≤len∧i = .int .i64 k∧SheetAt xs k∧All w wr) (fun i _=>len - (intOf i).toNat)
 case atStart=>exact ⟨0,Nat.zero_le _,rfl,SheetAt.zero _,Kept.refl _ _⟩
 case round =>
  obtain ⟨k,hk,rfl,hat,hwr⟩:=hrel;obtain ⟨wo,rfl⟩ : ∃ wo : World,wo = wr:=⟨_,rfl⟩;have HA:=Lib.hid hat
  clear hat
  by_cases hlt : k < len
  ·obtain ⟨b,off,⟨key,kind,most,opts,needed,secret⟩,oa,oc,ha,-,c0,c1,c2,c3,c4,c5,hcp,⟨hz1,hz2⟩,hos,hq,htk⟩:=(hs.keep RQst.ok hwr).atQst hlt;subst ha;dsimp only at *;obtain ⟨m,hm⟩ : ∃ m,m = opts.length:=⟨_,rfl⟩;have HM:=Lib.hid hm;rw [← hm] at hos hcp c3 hz2;clear hm;have Hq:=Lib.hid hq;have hwa:=hwr.then_alloc (.cells #[.string key,.int .i64 kind,.int .i64 most,.slice oa m oc,.bool needed,.bool secret] 146);have hko : All wo (wo.alloc (.cells #[.string key,.int .i64 kind,.int .i64 most,.slice oa m oc,.bool needed,.bool secret] 146)):=Kept.alloc _ _ _;have hblk:=heap_at wo (.cells #[.string key,.int .i64 kind,.int .i64 most,.slice oa m oc,.bool needed,.bool secret] 146) _ rfl;have e0:=cell_at (i:=0) hblk rfl;have e1:=cell_at (i:=1) hblk rfl;have e2:=cell_at (i:=2) hblk rfl;have e3:=cell_at (i:=3) hblk rfl;have e4:=cell_at (i:=4) hblk rfl;have e5:=cell_at (i:=5) hblk rfl;have HP:=Lib.hid (fun (wx : World) (h : All w wx)=>questionAt_any (some ⟨b,off,none⟩) len cap xs key wx (hs.keep RQst.ok h) hl);have hos1:=hos.keep RStr.ok hko;have hz3 : key.size≤1000000:=hz1;clear hq htk hblk hs hos
   go_upto_block 3 with fail
   go_cut [] (fun wx=>isKeyB key = true∧questF ⟨key,kind,most,opts,needed,secret⟩ = orderG [] opts∧(k : Int)≤findG (isQ key) 0 xs∧wx.cell? ⟨wo.heap.size,3,none⟩ = some (.slice oa m oc)∧Sl RStr 1 (fun _=>True) wx oa m opts∧All w wx)
   case first =>
    cases h1 : isKeyB key with
    | false =>
     (go_wp2_with fail);refine (key_any key _ hz1).mono ?_;rintro e w2 ⟨rfl,hw2⟩;rw [h1];(go_wp2_with fail);go_ret;exact ⟨ret_int' (by rw [hfin.out]; exact (HA.out.name Hq.out h1).symm),hwa.trans hw2⟩
    | true =>
     have HK:=Lib.hid h1;obtain ⟨fi,hfi⟩ : ∃ fi,fi = findG (isQ key) 0 xs:=⟨_,rfl⟩;have HFI:=Lib.hid hfi;clear hfi;by_cases h2 : fi < (k : Int)
     ·(have hd2 : decide (fi < (k : Int)) = true:=by simpa using h2);have HB:=Lib.hid (HA.out.twice Hq.out HK.out (by rw [← HFI.out]; exact h2));(go_wp2_with fail);refine (key_any key _ hz1).mono ?_;rintro e w2 ⟨rfl,hw2⟩;rw [h1];have hwx:=hwa.trans hw2;have g0:=hw2.cell e0 trivial;have g1:=hw2.cell e1 trivial;have g2:=hw2.cell e2 trivial;have g3:=hw2.cell e3 trivial;have g4:=hw2.cell e4 trivial;have g5:=hw2.cell e5 trivial;have hos2:=hos1.keep RStr.ok hw2;clear hwa hos1 hw2;(go_wp2_with fail);refine (HP.out _ hwx).mono ?_;rintro e w3 ⟨rfl,hw3⟩;rw [← HFI.out];have hwb:=hwx.trans hw3;have f0:=hw3.cell g0 trivial;have f1:=hw3.cell g1 trivial;have f2:=hw3.cell g2 trivial;have f3:=hw3.cell g3 trivial;have f4:=hw3.cell g4 trivial;have f5:=hw3.cell g5 trivial;have HO3:=Lib.hid (hos2.keep RStr.ok hw3);clear hwx hw3 hos2;(go_wp2_with fail);go_ret;exact ⟨ret_int' (by rw [hfin.out]; exact (HB.out).symm),hwb⟩
     ·(have hd2 : decide (fi < (k : Int)) = false:=by simpa using h2);have HN:=Lib.hid (show (k : Int)≤findG (isQ key) 0 xs by rw [← HFI.out]; omega);(go_wp2_with fail);refine (key_any key _ hz1).mono ?_;rintro e w2 ⟨rfl,hw2⟩;rw [h1];have hwx:=hwa.trans hw2;have g0:=hw2.cell e0 trivial;have g1:=hw2.cell e1 trivial;have g2:=hw2.cell e2 trivial;have g3:=hw2.cell e3 trivial;have g4:=hw2.cell e4 trivial;have g5:=hw2.cell e5 trivial;have hos2:=hos1.keep RStr.ok hw2;clear hwa hos1 hw2;(go_wp2_with fail);refine (HP.out _ hwx).mono ?_;rintro e w3 ⟨rfl,hw3⟩;rw [← HFI.out];have hwb:=hwx.trans hw3;have f0:=hw3.cell g0 trivial;have f1:=hw3.cell g1 trivial;have f2:=hw3.cell g2 trivial;have f3:=hw3.cell g3 trivial;have f4:=hw3.cell g4 trivial;have f5:=hw3.cell g5 trivial;have HO3:=Lib.hid (hos2.keep RStr.ok hw3);clear hwx hw3 hos2;clear h2;by_cases hkd : kind < 1∨3 < kind
      ·(have hd : decide ((1 : Int)≤kind∧kind≤3) = false:=by simp; omega);have hbad:=Lib.hid (HA.out.bad Hq.out HK.out (Int.not_lt.2 HN.out) (show questF ⟨key,kind,most,opts,needed,secret⟩ = 4 from by rw [questF,if_pos (by dsimp only; have:=HM.out; omega)]) (by decide))
       (try clear hm0)
       (go_wp2_with fail);refine (in_any kind 1 3 _).mono ?_;rintro e wq ⟨rfl,hh⟩;subst hh;rw [hd];(go_wp2_with fail);go_ret;exact ⟨ret_int' (by rw [hfin.out]; exact hbad.out.symm),hwb⟩
      ·(have hk3 : kind = 1∨kind = 2∨kind = 3:=by omega);clear hkd;rcases hk3 with rfl | rfl | rfl
       ·by_cases hms : most < 1∨100 < most
        ·(have hd : decide (1≤most∧most≤100) = false:=by simp; omega);have hbad:=Lib.hid (HA.out.bad Hq.out HK.out (Int.not_lt.2 HN.out) (show questF ⟨key,1,most,opts,needed,secret⟩ = 1 from by rw [questF,if_neg (by dsimp only; have:=HM.out; omega),if_pos (by dsimp only; have:=HM.out; omega)]) (by decide))
         (try clear hm0)
         (go_wp2_with fail);refine (in_any 1 1 3 _).mono ?_;rintro e wq ⟨rfl,hh⟩;subst hh;rw [(show decide ((1 : Int)≤(1 : Int)∧(1 : Int)≤3) = true from rfl)];(go_wp2_with fail);refine (in_any most 1 100 _).mono ?_;rintro e wq ⟨rfl,hh⟩;subst hh;rw [hd];(go_wp2_with fail);go_ret;exact ⟨ret_int' (by rw [hfin.out]; exact hbad.out.symm),hwb⟩
        ·(have hd : decide (1≤most∧most≤100) = true:=by simp; omega);by_cases hm0 : m = 0
         ·(have h20 : decide ((20 : Int) < (m : Int)) = false:=by simp; omega);(have hg : decide (0 < m) = false:=by simp; omega);have HQ:=Lib.hid (show questF ⟨key,1,most,opts,needed,secret⟩ = orderG [] opts from by rw [questF,if_neg (by dsimp only; have:=HM.out; omega),if_neg (by dsimp only; have:=HM.out; omega),if_neg (by dsimp only; have:=HM.out; omega),if_neg (by dsimp only; have:=HM.out; omega)]);clear hm0 hms;(go_wp2_with fail);refine (in_any 1 1 3 _).mono ?_;rintro e wq ⟨rfl,hh⟩;subst hh;rw [(show decide ((1 : Int)≤(1 : Int)∧(1 : Int)≤3) = true from rfl)];(go_wp2_with fail);refine (in_any most 1 100 _).mono ?_;rintro e wq ⟨rfl,hh⟩;subst hh;rw [hd];(go_wp2_with fail);go_meet;exact ⟨HK.out,HQ.out,HN.out,f3,HO3.out,hwb⟩
         ·(have hg : decide (0 < m) = true:=by simp; omega);have hbad:=Lib.hid (HA.out.bad Hq.out HK.out (Int.not_lt.2 HN.out) (show questF ⟨key,1,most,opts,needed,secret⟩ = 3 from by rw [questF,if_neg (by dsimp only; have:=HM.out; omega),if_neg (by dsimp only; have:=HM.out; omega),if_pos (by dsimp only; have:=HM.out; omega)]) (by decide))
          (try clear hm0)
          (go_wp2_with fail);refine (in_any 1 1 3 _).mono ?_;rintro e wq ⟨rfl,hh⟩;subst hh;rw [(show decide ((1 : Int)≤(1 : Int)∧(1 : Int)≤3) = true from rfl)];(go_wp2_with fail);refine (in_any most 1 100 _).mono ?_;rintro e wq ⟨rfl,hh⟩;subst hh;rw [hd];(go_wp2_with fail);go_ret;exact ⟨ret_int' (by rw [hfin.out]; exact hbad.out.symm),hwb⟩
       ·by_cases hms : most = 0
        ·subst hms;by_cases hm0 : m = 0
         ·(have hg : decide (0 < m) = false:=by simp; omega);have hbad:=Lib.hid (HA.out.bad Hq.out HK.out (Int.not_lt.2 HN.out) (show questF ⟨key,2,0,opts,needed,secret⟩ = 3 from by rw [questF,if_neg (by dsimp only; have:=HM.out; omega),if_neg (by dsimp only; have:=HM.out; omega),if_pos (by dsimp only; have:=HM.out; omega)]) (by decide))
          (try clear hm0)
          (go_wp2_with fail);refine (in_any 2 1 3 _).mono ?_;rintro e wq ⟨rfl,hh⟩;subst hh;rw [(show decide ((1 : Int)≤(2 : Int)∧(2 : Int)≤3) = true from rfl)];(go_wp2_with fail);go_ret;exact ⟨ret_int' (by rw [hfin.out]; exact hbad.out.symm),hwb⟩
         ·(have hg : decide (0 < m) = true:=by simp; omega);by_cases hmm : 20 < m
          ·(have h20 : decide ((20 : Int) < (m : Int)) = true:=by simp; omega);have hbad:=Lib.hid (HA.out.bad Hq.out HK.out (Int.not_lt.2 HN.out) (show questF ⟨key,2,0,opts,needed,secret⟩ = 2 from by rw [questF,if_neg (by dsimp only; have:=HM.out; omega),if_neg (by dsimp only; have:=HM.out; omega),if_neg (by dsimp only; have:=HM.out; omega),if_pos (by dsimp only; have:=HM.out; omega)]) (by decide))
           (try clear hm0)
           (go_wp2_with fail);refine (in_any 2 1 3 _).mono ?_;rintro e wq ⟨rfl,hh⟩;subst hh;rw [(show decide ((1 : Int)≤(2 : Int)∧(2 : Int)≤3) = true from rfl)];(go_wp2_with fail);go_ret;exact ⟨ret_int' (by rw [hfin.out]; exact hbad.out.symm),hwb⟩
          ·(have h20 : decide ((20 : Int) < (m : Int)) = false:=by simp; omega);have HQ:=Lib.hid (show questF ⟨key,2,0,opts,needed,secret⟩ = orderG [] opts from by rw [questF,if_neg (by dsimp only; have:=HM.out; omega),if_neg (by dsimp only; have:=HM.out; omega),if_neg (by dsimp only; have:=HM.out; omega),if_neg (by dsimp only; have:=HM.out; omega)]);clear hm0 hmm;(go_wp2_with fail);refine (in_any 2 1 3 _).mono ?_;rintro e wq ⟨rfl,hh⟩;subst hh;rw [(show decide ((1 : Int)≤(2 : Int)∧(2 : Int)≤3) = true from rfl)];(go_wp2_with fail);go_meet;exact ⟨HK.out,HQ.out,HN.out,f3,HO3.out,hwb⟩
        ·(have hmq : (most == 0) = false:=by simpa using hms);have hbad:=Lib.hid (HA.out.bad Hq.out HK.out (Int.not_lt.2 HN.out) (show questF ⟨key,2,most,opts,needed,secret⟩ = 3 from by rw [questF,if_neg (by dsimp only; have:=HM.out; omega),if_neg (by dsimp only; have:=HM.out; omega),if_pos (by dsimp only; have:=HM.out; omega)]) (by decide))
         (try clear hm0)
         (go_wp2_with fail);refine (in_any 2 1 3 _).mono ?_;rintro e wq ⟨rfl,hh⟩;subst hh;rw [(show decide ((1 : Int)≤(2 : Int)∧(2 : Int)≤3) = true from rfl)];(go_wp2_with fail);go_ret;exact ⟨ret_int' (by rw [hfin.out]; exact hbad.out.symm),hwb⟩
       ·by_cases hms : most < 1∨5000 < most
        ·(have hd : decide (1≤most∧most≤5000) = false:=by simp; omega);have hbad:=Lib.hid (HA.out.bad Hq.out HK.out (Int.not_lt.2 HN.out) (show questF ⟨key,3,most,opts,needed,secret⟩ = 1 from by rw [questF,if_neg (by dsimp only; have:=HM.out; omega),if_pos (by dsimp only; have:=HM.out; omega)]) (by decide))
         (try clear hm0)
         (go_wp2_with fail);refine (in_any 3 1 3 _).mono ?_;rintro e wq ⟨rfl,hh⟩;subst hh;rw [(show decide ((1 : Int)≤(3 : Int)∧(3 : Int)≤3) = true from rfl)];(go_wp2_with fail);refine (in_any most 1 5000 _).mono ?_;rintro e wq ⟨rfl,hh⟩;subst hh;rw [hd];(go_wp2_with fail);go_ret;exact ⟨ret_int' (by rw [hfin.out]; exact hbad.out.symm),hwb⟩
        ·(have hd : decide (1≤most∧most≤5000) = true:=by simp; omega);by_cases hm0 : m = 0
         ·(have h20 : decide ((20 : Int) < (m : Int)) = false:=by simp; omega);(have hg : decide (0 < m) = false:=by simp; omega);have HQ:=Lib.hid (show questF ⟨key,3,most,opts,needed,secret⟩ = orderG [] opts from by rw [questF,if_neg (by dsimp only; have:=HM.out; omega),if_neg (by dsimp only; have:=HM.out; omega),if_neg (by dsimp only; have:=HM.out; omega),if_neg (by dsimp only; have:=HM.out; omega)]);clear hm0 hms;(go_wp2_with fail);refine (in_any 3 1 3 _).mono ?_;rintro e wq ⟨rfl,hh⟩;subst hh;rw [(show decide ((1 : Int)≤(3 : Int)∧(3 : Int)≤3) = true from rfl)];(go_wp2_with fail);refine (in_any most 1 5000 _).mono ?_;rintro e wq ⟨rfl,hh⟩;subst hh;rw [hd];(go_wp2_with fail);go_meet;exact ⟨HK.out,HQ.out,HN.out,f3,HO3.out,hwb⟩
         ·(have hg : decide (0 < m) = true:=by simp; omega);have hbad:=Lib.hid (HA.out.bad Hq.out HK.out (Int.not_lt.2 HN.out) (show questF ⟨key,3,most,opts,needed,secret⟩ = 3 from by rw [questF,if_neg (by dsimp only; have:=HM.out; omega),if_neg (by dsimp only; have:=HM.out; omega),if_pos (by dsimp only; have:=HM.out; omega)]) (by decide))
          (try clear hm0)
          (go_wp2_with fail);refine (in_any 3 1 3 _).mono ?_;rintro e wq ⟨rfl,hh⟩;subst hh;rw [(show decide ((1 : Int)≤(3 : Int)∧(3 : Int)≤3) = true from rfl)];(go_wp2_with fail);refine (in_any most 1 5000 _).mono ?_;rintro e wq ⟨rfl,hh⟩;subst hh;rw [hd];(go_wp2_with fail);go_ret;exact ⟨ret_int' (by rw [hfin.out]; exact hbad.out.symm),hwb⟩
   case rest =>
    obtain ⟨hky0,hqo,hnot,hcl,hosd,hwc⟩:=hcut;obtain ⟨wd,rfl⟩ : ∃ x : World,x = wc:=⟨_,rfl⟩;have HQO:=Lib.hid hqo;have HN:=Lib.hid hnot;have HK:=Lib.hid hky0;clear hky0 hqo hnot hwa hos1 e0 e1 e2 e3 e4 e5;(go_wp2_with fail);go_loopw [83] (fun i wr=>∃ j : Nat,j≤m∧i = .int .i64 j∧OrderAt opts j∧wr.cell? ⟨wo.heap.size,3,none⟩ = some (.slice oa m oc)∧All wd wr) (fun i _=>m - (intOf i).toNat)
    case atStart=>exact ⟨0,Nat.zero_le _,rfl,OrderAt.zero _,hcl,Kept.refl _ _⟩
    case round =>
     obtain ⟨j,hj,rfl,hoat,hcl2,hwi⟩:=hrel;obtain ⟨wi,rfl⟩ : ∃ wi : World,wi = wr:=⟨_,rfl⟩;have HO:=Lib.hid hoat
     clear hoat hcl;by_cases hjl : j < m
     ·have hsk:=hosd.keep RStr.ok hwi;obtain ⟨b5,off5,y,ha5,-,d0,hzy,hy,-,hty⟩:=hsk.atStr hjl;subst ha5;have HY:=Lib.hid hy;have HSL:=Lib.hid (fun (wx : World) (h : All wi wx)=>(hsk.keep RStr.ok h).take (k:=j) (by omega));clear hy hty hosd hsk
      cases hky : isKeyB y with
      | false =>
       have hbad:=Lib.hid (HA.out.bad Hq.out HK.out (Int.not_lt.2 HN.out) (HQO.out.trans (HO.out.name HY.out hky)) (by decide));(go_wp2_with fail);refine (key_any _ _ (by omega)).mono ?_;rintro e w4 ⟨rfl,hw4⟩;rw [hky];(go_wp2_with fail);go_ret;exact ⟨ret_int' (by rw [hfin.out]; exact hbad.out.symm),hwc.trans (hwi.trans hw4)⟩
      | true =>
       have HKY:=Lib.hid hky
       cases hme : memB y (opts.take j) with
       | true =>
        have hbad:=Lib.hid (HA.out.bad Hq.out HK.out (Int.not_lt.2 HN.out) (HQO.out.trans (HO.out.twice HY.out HKY.out hme)) (by decide));(go_wp2_with fail);refine (key_any _ _ (by omega)).mono ?_;rintro e w4 ⟨rfl,hw4⟩;rw [hky];have hcl3:=hw4.cell hcl2 trivial;have hwj:=hwi.trans hw4;(go_wp2_with fail);refine (contains_any _ j oc (opts.take j) y _ (HSL.out _ hw4) (by omega)).mono ?_;rintro e w5 ⟨rfl,hh⟩;subst hh;rw [hme];(go_wp2_with fail);go_ret;exact ⟨ret_int' (by rw [hfin.out]; exact hbad.out.symm),hwc.trans hwj⟩
       | false =>
        have HNX:=Lib.hid (HO.out.next HY.out HKY.out hme);(go_wp2_with fail);refine (key_any _ _ (by omega)).mono ?_;rintro e w4 ⟨rfl,hw4⟩;rw [hky];have hcl3:=hw4.cell hcl2 trivial;have hwj:=hwi.trans hw4;(go_wp2_with fail);refine (contains_any _ j oc (opts.take j) y _ (HSL.out _ hw4) (by omega)).mono ?_;rintro e w5 ⟨rfl,hh⟩;subst hh;rw [hme];(go_wp2_with fail);go_roundw
        case rel=>exact ⟨j+1,by omega,by go_num,HNX.out,hcl3,hwj⟩
        case measure=>simp [intOf]; omega
     ·(have hdj : decide ((j : Int) < (m : Int)) = false:=by simp; omega);have HNX:=Lib.hid (HA.out.next Hq.out HK.out (Int.not_lt.2 HN.out) (HQO.out.trans (HO.out.ok (by have:=HM.out; omega))));have hwe:=hwc.trans hwi;clear hosd hwc hwi hcl2;(go_wp2_with fail);go_roundw
      case rel=>exact ⟨k+1,by omega,by go_num,HNX.out,hwe⟩
      case measure=>simp [intOf]; omega
  ·(have hdk : decide ((k : Int) < (len : Int)) = false:=by simp; omega);(go_wp2_with fail);go_ret;exact ⟨ret_int' (by rw [hfin.out]; exact (HA.out.ok (by have:=Hlen.out; omega)).symm),hwr⟩

end Go.Proofs.YtjbaijgdkkccbaaGreatDoor

/- The error of an answer to a question: used, answerFault, the reference's answerFault. -/
namespace Go.Proofs.YtjbaijgdkkccbaaGreatDoor
open Go.RowKit

def usedA (kind : Int) (a : Ans4) : Ans4:=if kind = 1 then ⟨a.question,a.number,⟨#[]⟩,⟨#[]⟩⟩ else if kind = 2 then ⟨a.question,0,a.option,⟨#[]⟩⟩ else ⟨a.question,0,⟨#[]⟩,a.words⟩

set_option maxRecDepth 100000 in
theorem used_any (kind : Int) (a : Ans4) (w : World) :
  Calls Tryz.prog 344 #[.int .i64 kind,ansVal a] w fun e w'=>e = .returned (ansVal (usedA kind a))∧All w w':=by
 obtain ⟨qq,num,opt,wds⟩:=a;by_cases h1 : kind = 1
 ·subst h1;(go_enter Tryz.func344,Tryz.ntmps344);(go_wp2_with fail);have hb0:=heap_old (.cells #[.string qq,.int .i64 num,.string ⟨#[]⟩,.string ⟨#[]⟩] 143) (heap_at (w.alloc (.cells #[.string qq,.int .i64 num,.string opt,.string wds] 143)) (.cells #[.string qq,.int .i64 num,.string ⟨#[]⟩,.string ⟨#[]⟩] 143) (w.heap.size+1) (by simp));have q0:=cell_at (i:=0) hb0 rfl;have q1:=cell_at (i:=1) hb0 rfl;have q2:=cell_at (i:=2) hb0 rfl;have q3:=cell_at (i:=3) hb0 rfl;clear hb0;refine bodyPost_ret (v:=.agg #[.string qq,.int .i64 num,.string ⟨#[]⟩,.string ⟨#[]⟩]) ?_ rfl ⟨rfl,((Kept.alloc _ _ _).then_alloc _).then_alloc _⟩;simp [results,Tryz.results344,go_sem,q0,q1,q2,q3]
 by_cases h2 : kind = 2
 ·subst h2;(go_enter Tryz.func344,Tryz.ntmps344);(go_wp2_with fail);have hb0:=heap_old (.cells #[.string qq,.int .i64 0,.string opt,.string ⟨#[]⟩] 143) (heap_at (w.alloc (.cells #[.string qq,.int .i64 num,.string opt,.string wds] 143)) (.cells #[.string qq,.int .i64 0,.string opt,.string ⟨#[]⟩] 143) (w.heap.size+1) (by simp));have q0:=cell_at (i:=0) hb0 rfl;have q1:=cell_at (i:=1) hb0 rfl;have q2:=cell_at (i:=2) hb0 rfl;have q3:=cell_at (i:=3) hb0 rfl;clear hb0;refine bodyPost_ret (v:=.agg #[.string qq,.int .i64 0,.string opt,.string ⟨#[]⟩]) ?_ rfl ⟨rfl,((Kept.alloc _ _ _).then_alloc _).then_alloc _⟩;simp [results,Tryz.results344,go_sem,q0,q1,q2,q3]
 (have e1 : (kind == 1) = false:=by simpa using h1);(have e2 : (kind == 2) = false:=by simpa using h2);have hfin:=Lib.hid (show usedA kind ⟨qq,num,opt,wds⟩ = ⟨qq,0,⟨#[]⟩,wds⟩ by rw [usedA,if_neg h1,if_neg h2]);(go_enter Tryz.func344,Tryz.ntmps344);(go_wp2_with fail);have hb0:=heap_old (.cells #[.string qq,.int .i64 0,.string ⟨#[]⟩,.string wds] 143) (heap_at (w.alloc (.cells #[.string qq,.int .i64 num,.string opt,.string wds] 143)) (.cells #[.string qq,.int .i64 0,.string ⟨#[]⟩,.string wds] 143) (w.heap.size+1) (by simp));have q0:=cell_at (i:=0) hb0 rfl;have q1:=cell_at (i:=1) hb0 rfl;have q2:=cell_at (i:=2) hb0 rfl;have q3:=cell_at (i:=3) hb0 rfl;clear hb0;refine bodyPost_ret (v:=.agg #[.string qq,.int .i64 0,.string ⟨#[]⟩,.string wds]) ?_ rfl ⟨by rw [hfin.out],((Kept.alloc _ _ _).then_alloc _).then_alloc _⟩;simp [results,Tryz.results344,go_sem,q0,q1,q2,q3]

theorem nempty {s : ByteArray} (h : ¬ s.size = 0) : (s.toList == []) = false∧(([] : List UInt8) == s.toList) = false:=by
 have h1:=toList_ne h;exact ⟨by simpa using h1,by simpa using h1⟩
theorem empty_of_size {s : ByteArray} (h : s.size = 0) : s = ⟨#[]⟩:=ByteArray.ext (Array.eq_empty_of_size_eq_zero h)
section
variable {q : Qst} {a : Ans4}
theorem answerF_spare (h : ¬ spareOk q.kind a) : answerF q a = 3:=by rw [answerF,if_pos h]
theorem answerF_1 (hk : q.kind = 1) (h : spareOk q.kind a) : answerF q a = if a.number < 0∨q.most < a.number then 1 else 0:=by
 rw [answerF,if_neg (fun hh=>hh h)]; simp [hk]
theorem answerF_2 (hk : q.kind = 2) (h : spareOk q.kind a) : answerF q a = if memB a.option q.opts = false then 8 else 0:=by
 rw [answerF,if_neg (fun hh=>hh h)]; simp [hk]
theorem answerF_3 (hk : q.kind = 3) (h : spareOk q.kind a) : answerF q a = if a.words.size = 0∨isTextB a.words = false then 3 else if q.most < (a.words.size : Int) then 2 else 0:=by
 rw [answerF,if_neg (fun hh=>hh h)]; simp [hk]
theorem answerF_o (h1 : q.kind≠1) (h2 : q.kind≠2) (h3 : q.kind≠3) (h : spareOk q.kind a) : answerF q a = 0:=by
 rw [answerF,if_neg (fun hh=>hh h)]; simp [h1,h2,h3]
end

set_option maxRecDepth 100000 in
set_option maxHeartbeats 6400000 in
theorem answerFault_any (q : Qst) (x : Ans4) (oa : Option Addr) (oc : Nat) (w : World) (hsm : QstSmall q) (hxm : AnsSmall x) (hs : Sl RStr 1 (fun _=>True) w oa q.opts.length q.opts) (hg : Tabs w) :
  Calls Tryz.prog 300 #[.agg #[.string q.key,.int .i64 q.kind,.int .i64 q.most,.slice oa q.opts.length oc,.bool q.needed,.bool q.secret],ansVal x] w fun e w'=>e = .returned (.int .i64 (answerF q x))∧All w w':=by
 obtain ⟨key,kind,most,opts,needed,secret⟩:=q;obtain ⟨qq,num,opt,wds⟩:=x;obtain ⟨-,hsm⟩:=hsm;obtain ⟨-,hx2,hx3,-⟩:=hxm;dsimp only at *;obtain ⟨m,hm⟩ : ∃ m,m = opts.length:=⟨_,rfl⟩;have HM:=Lib.hid hm;rw [← hm] at hs hsm ⊢;clear hm;have hk2 : All w ((w.alloc (.cells #[.string key,.int .i64 kind,.int .i64 most,.slice oa m oc,.bool needed,.bool secret] 146)).alloc (.cells #[.string qq,.int .i64 num,.string opt,.string wds] 143)):=(Kept.alloc _ _ _).then_alloc _;have b1:=heap_old (.cells #[.string qq,.int .i64 num,.string opt,.string wds] 143) (heap_at w (.cells #[.string key,.int .i64 kind,.int .i64 most,.slice oa m oc,.bool needed,.bool secret] 146) _ rfl);have b2:=heap_at (w.alloc (.cells #[.string key,.int .i64 kind,.int .i64 most,.slice oa m oc,.bool needed,.bool secret] 146)) (.cells #[.string qq,.int .i64 num,.string opt,.string wds] 143) (w.heap.size+1) (by simp);have HS:=Lib.hid (fun (wx : World) (h : All ((w.alloc (.cells #[.string key,.int .i64 kind,.int .i64 most,.slice oa m oc,.bool needed,.bool secret] 146)).alloc (.cells #[.string qq,.int .i64 num,.string opt,.string wds] 143)) wx)=>contains_any oa m oc opts opt wx ((hs.keep RStr.ok hk2).keep RStr.ok h) (by omega));have HG:=Lib.hid (fun (wx : World) (h : All ((w.alloc (.cells #[.string key,.int .i64 kind,.int .i64 most,.slice oa m oc,.bool needed,.bool secret] 146)).alloc (.cells #[.string qq,.int .i64 num,.string opt,.string wds] 143)) wx)=>isText_any wds wx hx3 ((hg.keep hk2).keep h));clear hs hg;have e0:=cell_at (i:=0) b1 rfl;have e1:=cell_at (i:=1) b1 rfl;have e2:=cell_at (i:=2) b1 rfl;have e3:=cell_at (i:=3) b1 rfl;have e4:=cell_at (i:=4) b1 rfl;have e5:=cell_at (i:=5) b1 rfl;have d0:=cell_at (i:=0) b2 rfl;have d1:=cell_at (i:=1) b2 rfl;have d2:=cell_at (i:=2) b2 rfl;have d3:=cell_at (i:=3) b2 rfl;clear b1 b2;(go_enter Tryz.func300,Tryz.ntmps300);by_cases hn1 : kind = 1
 ·subst hn1;have HU:=Lib.hid (fun (wx : World)=>(show Calls Tryz.prog 344 #[.int .i64 1,.agg #[.string qq,.int .i64 num,.string opt,.string wds]] wx fun e w'=>e = .returned (.agg #[.string qq,.int .i64 num,.string ⟨#[]⟩,.string ⟨#[]⟩])∧All wx w' from used_any 1 ⟨qq,num,opt,wds⟩ wx));by_cases hA : opt.size = 0
  ·obtain rfl : opt = ⟨#[]⟩:=empty_of_size hA;by_cases hB : wds.size = 0
   ·obtain rfl : wds = ⟨#[]⟩:=empty_of_size hB;by_cases hN : num < 0∨most < num
    ·(have hd : decide (num < 0∨most < num) = true:=by simp; omega);have hfin:=Lib.hid (show answerF ⟨key,1,most,opts,needed,secret⟩ ⟨qq,num,⟨#[]⟩,⟨#[]⟩⟩ = 1 from (answerF_1 rfl (by unfold spareOk; rw [if_pos rfl]; exact ⟨rfl,rfl⟩)).trans (if_pos hN));clear hN;go_wp2_with fail
     go_region_held3 (fun w'=>w'.cell? ⟨w.heap.size,1,none⟩ = some (.int .i64 1)∧w'.cell? ⟨w.heap.size+1,0,none⟩ = some (.string qq)∧w'.cell? ⟨w.heap.size+1,1,none⟩ = some (.int .i64 num)∧w'.cell? ⟨w.heap.size+1,2,none⟩ = some (.string ⟨#[]⟩)∧w'.cell? ⟨w.heap.size+1,3,none⟩ = some (.string ⟨#[]⟩)) (first | go_keep | exact ⟨by assumption,by assumption,by assumption,by assumption,by assumption⟩) (first | (go_at_call 344; refine (HU.out _).mono ?_; rintro e q ⟨rfl,hq⟩; have hp1 : All ((w.alloc (.cells #[.string key,.int .i64 1,.int .i64 most,.slice oa m oc,.bool needed,.bool secret] 146)).alloc (.cells #[.string qq,.int .i64 num,.string ⟨#[]⟩,.string ⟨#[]⟩] 143)) q:=Kept.trans (by repeat (first | exact Kept.refl _ _ | refine Kept.then_drew ?_ | refine Kept.then_drewN ?_ _ | refine Kept.then_alloc ?_ _)) hq; have a1:=hp1.cell e1 trivial; have a2:=hp1.cell e2 trivial; have a3:=hp1.cell e3 trivial; have c0:=hp1.cell d0 trivial; have c1:=hp1.cell d1 trivial; have c2:=hp1.cell d2 trivial; have c3:=hp1.cell d3 trivial))
     (go_wp2_with fail);refine (outside_any num 0 most _).mono ?_;rintro e wq ⟨rfl,hh⟩;subst hh;rw [hd];(go_wp2_with fail);go_ret;exact ⟨ret_int' hfin.out.symm,(hk2.trans hp1)⟩
    ·(have hd : decide (num < 0∨most < num) = false:=by simp; omega);have hfin:=Lib.hid (show answerF ⟨key,1,most,opts,needed,secret⟩ ⟨qq,num,⟨#[]⟩,⟨#[]⟩⟩ = 0 from (answerF_1 rfl (by unfold spareOk; rw [if_pos rfl]; exact ⟨rfl,rfl⟩)).trans (if_neg hN));clear hN;go_wp2_with fail
     go_region_held3 (fun w'=>w'.cell? ⟨w.heap.size,1,none⟩ = some (.int .i64 1)∧w'.cell? ⟨w.heap.size+1,0,none⟩ = some (.string qq)∧w'.cell? ⟨w.heap.size+1,1,none⟩ = some (.int .i64 num)∧w'.cell? ⟨w.heap.size+1,2,none⟩ = some (.string ⟨#[]⟩)∧w'.cell? ⟨w.heap.size+1,3,none⟩ = some (.string ⟨#[]⟩)) (first | go_keep | exact ⟨by assumption,by assumption,by assumption,by assumption,by assumption⟩) (first | (go_at_call 344; refine (HU.out _).mono ?_; rintro e q ⟨rfl,hq⟩; have hp1 : All ((w.alloc (.cells #[.string key,.int .i64 1,.int .i64 most,.slice oa m oc,.bool needed,.bool secret] 146)).alloc (.cells #[.string qq,.int .i64 num,.string ⟨#[]⟩,.string ⟨#[]⟩] 143)) q:=Kept.trans (by repeat (first | exact Kept.refl _ _ | refine Kept.then_drew ?_ | refine Kept.then_drewN ?_ _ | refine Kept.then_alloc ?_ _)) hq; have a1:=hp1.cell e1 trivial; have a2:=hp1.cell e2 trivial; have a3:=hp1.cell e3 trivial; have c0:=hp1.cell d0 trivial; have c1:=hp1.cell d1 trivial; have c2:=hp1.cell d2 trivial; have c3:=hp1.cell d3 trivial))
     (go_wp2_with fail);refine (outside_any num 0 most _).mono ?_;rintro e wq ⟨rfl,hh⟩;subst hh;rw [hd];(go_wp2_with fail);go_ret;exact ⟨ret_int' hfin.out.symm,(hk2.trans hp1)⟩
   ·obtain ⟨z1,z2⟩:=nempty hB (s:=wds);have hfin:=Lib.hid (show answerF ⟨key,1,most,opts,needed,secret⟩ ⟨qq,num,⟨#[]⟩,wds⟩ = 3 from answerF_spare (by unfold spareOk; rw [if_pos rfl]; exact fun h=>hB h.2));go_wp2_with fail
    go_region_held3 (fun w'=>w'.cell? ⟨w.heap.size,1,none⟩ = some (.int .i64 1)∧w'.cell? ⟨w.heap.size+1,0,none⟩ = some (.string qq)∧w'.cell? ⟨w.heap.size+1,1,none⟩ = some (.int .i64 num)∧w'.cell? ⟨w.heap.size+1,2,none⟩ = some (.string ⟨#[]⟩)∧w'.cell? ⟨w.heap.size+1,3,none⟩ = some (.string wds)) (first | go_keep | exact ⟨by assumption,by assumption,by assumption,by assumption,by assumption⟩) (first | (go_at_call 344; refine (HU.out _).mono ?_; rintro e q ⟨rfl,hq⟩; have hp1 : All ((w.alloc (.cells #[.string key,.int .i64 1,.int .i64 most,.slice oa m oc,.bool needed,.bool secret] 146)).alloc (.cells #[.string qq,.int .i64 num,.string ⟨#[]⟩,.string wds] 143)) q:=Kept.trans (by repeat (first | exact Kept.refl _ _ | refine Kept.then_drew ?_ | refine Kept.then_drewN ?_ _ | refine Kept.then_alloc ?_ _)) hq; have a1:=hp1.cell e1 trivial; have a2:=hp1.cell e2 trivial; have a3:=hp1.cell e3 trivial; have c0:=hp1.cell d0 trivial; have c1:=hp1.cell d1 trivial; have c2:=hp1.cell d2 trivial; have c3:=hp1.cell d3 trivial))
    (go_wp2_with fail);go_ret;exact ⟨ret_int' hfin.out.symm,(hk2.trans hp1)⟩
  ·obtain ⟨z1,z2⟩:=nempty hA (s:=opt);have hfin:=Lib.hid (show answerF ⟨key,1,most,opts,needed,secret⟩ ⟨qq,num,opt,wds⟩ = 3 from answerF_spare (by unfold spareOk; rw [if_pos rfl]; exact fun h=>hA h.1));go_wp2_with fail
   go_region_held3 (fun w'=>w'.cell? ⟨w.heap.size,1,none⟩ = some (.int .i64 1)∧w'.cell? ⟨w.heap.size+1,0,none⟩ = some (.string qq)∧w'.cell? ⟨w.heap.size+1,1,none⟩ = some (.int .i64 num)∧w'.cell? ⟨w.heap.size+1,2,none⟩ = some (.string opt)∧w'.cell? ⟨w.heap.size+1,3,none⟩ = some (.string wds)) (first | go_keep | exact ⟨by assumption,by assumption,by assumption,by assumption,by assumption⟩) (first | (go_at_call 344; refine (HU.out _).mono ?_; rintro e q ⟨rfl,hq⟩; have hp1 : All ((w.alloc (.cells #[.string key,.int .i64 1,.int .i64 most,.slice oa m oc,.bool needed,.bool secret] 146)).alloc (.cells #[.string qq,.int .i64 num,.string opt,.string wds] 143)) q:=Kept.trans (by repeat (first | exact Kept.refl _ _ | refine Kept.then_drew ?_ | refine Kept.then_drewN ?_ _ | refine Kept.then_alloc ?_ _)) hq; have a1:=hp1.cell e1 trivial; have a2:=hp1.cell e2 trivial; have a3:=hp1.cell e3 trivial; have c0:=hp1.cell d0 trivial; have c1:=hp1.cell d1 trivial; have c2:=hp1.cell d2 trivial; have c3:=hp1.cell d3 trivial))
   (go_wp2_with fail);go_ret;exact ⟨ret_int' hfin.out.symm,(hk2.trans hp1)⟩
 by_cases hn2 : kind = 2
 ·subst hn2;have HU:=Lib.hid (fun (wx : World)=>(show Calls Tryz.prog 344 #[.int .i64 2,.agg #[.string qq,.int .i64 num,.string opt,.string wds]] wx fun e w'=>e = .returned (.agg #[.string qq,.int .i64 0,.string opt,.string ⟨#[]⟩])∧All wx w' from used_any 2 ⟨qq,num,opt,wds⟩ wx));by_cases hA : num = 0
  ·obtain rfl : num = 0:=hA;by_cases hB : wds.size = 0
   ·obtain rfl : wds = ⟨#[]⟩:=empty_of_size hB
    cases hM : memB opt opts with
    | false =>
     have hfin:=Lib.hid (show answerF ⟨key,2,most,opts,needed,secret⟩ ⟨qq,0,opt,⟨#[]⟩⟩ = 8 from (answerF_2 rfl (by unfold spareOk; rw [if_neg (show ¬ (2 : Int) = 1 by decide),if_pos rfl]; exact ⟨rfl,rfl⟩)).trans (if_pos hM));go_wp2_with fail
     go_region_held3 (fun w'=>w'.cell? ⟨w.heap.size,1,none⟩ = some (.int .i64 2)∧w'.cell? ⟨w.heap.size+1,0,none⟩ = some (.string qq)∧w'.cell? ⟨w.heap.size+1,1,none⟩ = some (.int .i64 0)∧w'.cell? ⟨w.heap.size+1,2,none⟩ = some (.string opt)∧w'.cell? ⟨w.heap.size+1,3,none⟩ = some (.string ⟨#[]⟩)) (first | go_keep | exact ⟨by assumption,by assumption,by assumption,by assumption,by assumption⟩) (first | (go_at_call 344; refine (HU.out _).mono ?_; rintro e q ⟨rfl,hq⟩; have hp1 : All ((w.alloc (.cells #[.string key,.int .i64 2,.int .i64 most,.slice oa m oc,.bool needed,.bool secret] 146)).alloc (.cells #[.string qq,.int .i64 0,.string opt,.string ⟨#[]⟩] 143)) q:=Kept.trans (by repeat (first | exact Kept.refl _ _ | refine Kept.then_drew ?_ | refine Kept.then_drewN ?_ _ | refine Kept.then_alloc ?_ _)) hq; have a1:=hp1.cell e1 trivial; have a2:=hp1.cell e2 trivial; have a3:=hp1.cell e3 trivial; have c0:=hp1.cell d0 trivial; have c1:=hp1.cell d1 trivial; have c2:=hp1.cell d2 trivial; have c3:=hp1.cell d3 trivial))
     (go_wp2_with fail);refine (HS.out _ hp1).mono ?_;rintro e wq ⟨rfl,hh⟩;subst hh;rw [hM];(go_wp2_with fail);go_ret;exact ⟨ret_int' hfin.out.symm,(hk2.trans hp1)⟩
    | true =>
     have hfin:=Lib.hid (show answerF ⟨key,2,most,opts,needed,secret⟩ ⟨qq,0,opt,⟨#[]⟩⟩ = 0 from (answerF_2 rfl (by unfold spareOk; rw [if_neg (show ¬ (2 : Int) = 1 by decide),if_pos rfl]; exact ⟨rfl,rfl⟩)).trans (if_neg (by rw [hM]; decide)));go_wp2_with fail
     go_region_held3 (fun w'=>w'.cell? ⟨w.heap.size,1,none⟩ = some (.int .i64 2)∧w'.cell? ⟨w.heap.size+1,0,none⟩ = some (.string qq)∧w'.cell? ⟨w.heap.size+1,1,none⟩ = some (.int .i64 0)∧w'.cell? ⟨w.heap.size+1,2,none⟩ = some (.string opt)∧w'.cell? ⟨w.heap.size+1,3,none⟩ = some (.string ⟨#[]⟩)) (first | go_keep | exact ⟨by assumption,by assumption,by assumption,by assumption,by assumption⟩) (first | (go_at_call 344; refine (HU.out _).mono ?_; rintro e q ⟨rfl,hq⟩; have hp1 : All ((w.alloc (.cells #[.string key,.int .i64 2,.int .i64 most,.slice oa m oc,.bool needed,.bool secret] 146)).alloc (.cells #[.string qq,.int .i64 0,.string opt,.string ⟨#[]⟩] 143)) q:=Kept.trans (by repeat (first | exact Kept.refl _ _ | refine Kept.then_drew ?_ | refine Kept.then_drewN ?_ _ | refine Kept.then_alloc ?_ _)) hq; have a1:=hp1.cell e1 trivial; have a2:=hp1.cell e2 trivial; have a3:=hp1.cell e3 trivial; have c0:=hp1.cell d0 trivial; have c1:=hp1.cell d1 trivial; have c2:=hp1.cell d2 trivial; have c3:=hp1.cell d3 trivial))
     (go_wp2_with fail);refine (HS.out _ hp1).mono ?_;rintro e wq ⟨rfl,hh⟩;subst hh;rw [hM];(go_wp2_with fail);go_ret;exact ⟨ret_int' hfin.out.symm,(hk2.trans hp1)⟩
   ·obtain ⟨z1,z2⟩:=nempty hB (s:=wds);have hfin:=Lib.hid (show answerF ⟨key,2,most,opts,needed,secret⟩ ⟨qq,0,opt,wds⟩ = 3 from answerF_spare (by unfold spareOk; rw [if_neg (show ¬ (2 : Int) = 1 by decide),if_pos rfl]; exact fun h=>hB h.2));go_wp2_with fail
    go_region_held3 (fun w'=>w'.cell? ⟨w.heap.size,1,none⟩ = some (.int .i64 2)∧w'.cell? ⟨w.heap.size+1,0,none⟩ = some (.string qq)∧w'.cell? ⟨w.heap.size+1,1,none⟩ = some (.int .i64 0)∧w'.cell? ⟨w.heap.size+1,2,none⟩ = some (.string opt)∧w'.cell? ⟨w.heap.size+1,3,none⟩ = some (.string wds)) (first | go_keep | exact ⟨by assumption,by assumption,by assumption,by assumption,by assumption⟩) (first | (go_at_call 344; refine (HU.out _).mono ?_; rintro e q ⟨rfl,hq⟩; have hp1 : All ((w.alloc (.cells #[.string key,.int .i64 2,.int .i64 most,.slice oa m oc,.bool needed,.bool secret] 146)).alloc (.cells #[.string qq,.int .i64 0,.string opt,.string wds] 143)) q:=Kept.trans (by repeat (first | exact Kept.refl _ _ | refine Kept.then_drew ?_ | refine Kept.then_drewN ?_ _ | refine Kept.then_alloc ?_ _)) hq; have a1:=hp1.cell e1 trivial; have a2:=hp1.cell e2 trivial; have a3:=hp1.cell e3 trivial; have c0:=hp1.cell d0 trivial; have c1:=hp1.cell d1 trivial; have c2:=hp1.cell d2 trivial; have c3:=hp1.cell d3 trivial))
    (go_wp2_with fail);go_ret;exact ⟨ret_int' hfin.out.symm,(hk2.trans hp1)⟩
  ·(have z1 : (num == 0) = false:=by simpa using hA);(have z2 : ((0 : Int) == num) = false:=by simpa using fun e=>hA e.symm);have hfin:=Lib.hid (show answerF ⟨key,2,most,opts,needed,secret⟩ ⟨qq,num,opt,wds⟩ = 3 from answerF_spare (by unfold spareOk; rw [if_neg (show ¬ (2 : Int) = 1 by decide),if_pos rfl]; exact fun h=>hA h.1));go_wp2_with fail
   go_region_held3 (fun w'=>w'.cell? ⟨w.heap.size,1,none⟩ = some (.int .i64 2)∧w'.cell? ⟨w.heap.size+1,0,none⟩ = some (.string qq)∧w'.cell? ⟨w.heap.size+1,1,none⟩ = some (.int .i64 num)∧w'.cell? ⟨w.heap.size+1,2,none⟩ = some (.string opt)∧w'.cell? ⟨w.heap.size+1,3,none⟩ = some (.string wds)) (first | go_keep | exact ⟨by assumption,by assumption,by assumption,by assumption,by assumption⟩) (first | (go_at_call 344; refine (HU.out _).mono ?_; rintro e q ⟨rfl,hq⟩; have hp1 : All ((w.alloc (.cells #[.string key,.int .i64 2,.int .i64 most,.slice oa m oc,.bool needed,.bool secret] 146)).alloc (.cells #[.string qq,.int .i64 num,.string opt,.string wds] 143)) q:=Kept.trans (by repeat (first | exact Kept.refl _ _ | refine Kept.then_drew ?_ | refine Kept.then_drewN ?_ _ | refine Kept.then_alloc ?_ _)) hq; have a1:=hp1.cell e1 trivial; have a2:=hp1.cell e2 trivial; have a3:=hp1.cell e3 trivial; have c0:=hp1.cell d0 trivial; have c1:=hp1.cell d1 trivial; have c2:=hp1.cell d2 trivial; have c3:=hp1.cell d3 trivial))
   (go_wp2_with fail);go_ret;exact ⟨ret_int' hfin.out.symm,(hk2.trans hp1)⟩
 by_cases hn3 : kind = 3
 ·subst hn3;have HU:=Lib.hid (fun (wx : World)=>(show Calls Tryz.prog 344 #[.int .i64 3,.agg #[.string qq,.int .i64 num,.string opt,.string wds]] wx fun e w'=>e = .returned (.agg #[.string qq,.int .i64 0,.string ⟨#[]⟩,.string wds])∧All wx w' from used_any 3 ⟨qq,num,opt,wds⟩ wx));by_cases hA : num = 0
  ·obtain rfl : num = 0:=hA;by_cases hB : opt.size = 0
   ·obtain rfl : opt = ⟨#[]⟩:=empty_of_size hB;by_cases hZ : wds.size = 0
    ·obtain rfl : wds = ⟨#[]⟩:=empty_of_size hZ;have hfin:=Lib.hid (show answerF ⟨key,3,most,opts,needed,secret⟩ ⟨qq,0,⟨#[]⟩,⟨#[]⟩⟩ = 3 from (answerF_3 rfl (by unfold spareOk; rw [if_neg (show ¬ (3 : Int) = 1 by decide),if_neg (show ¬ (3 : Int) = 2 by decide)]; exact ⟨rfl,rfl⟩)).trans (if_pos (Or.inl rfl)))
     cases hT : isTextB ⟨#[]⟩ with
     | false =>
      go_wp2_with fail
      go_region_held3 (fun w'=>w'.cell? ⟨w.heap.size,1,none⟩ = some (.int .i64 3)∧w'.cell? ⟨w.heap.size+1,0,none⟩ = some (.string qq)∧w'.cell? ⟨w.heap.size+1,1,none⟩ = some (.int .i64 0)∧w'.cell? ⟨w.heap.size+1,2,none⟩ = some (.string ⟨#[]⟩)∧w'.cell? ⟨w.heap.size+1,3,none⟩ = some (.string ⟨#[]⟩)) (first | go_keep | exact ⟨by assumption,by assumption,by assumption,by assumption,by assumption⟩) (first | (go_at_call 344; refine (HU.out _).mono ?_; rintro e q ⟨rfl,hq⟩; have hp1 : All ((w.alloc (.cells #[.string key,.int .i64 3,.int .i64 most,.slice oa m oc,.bool needed,.bool secret] 146)).alloc (.cells #[.string qq,.int .i64 0,.string ⟨#[]⟩,.string ⟨#[]⟩] 143)) q:=Kept.trans (by repeat (first | exact Kept.refl _ _ | refine Kept.then_drew ?_ | refine Kept.then_drewN ?_ _ | refine Kept.then_alloc ?_ _)) hq; have a1:=hp1.cell e1 trivial; have a2:=hp1.cell e2 trivial; have a3:=hp1.cell e3 trivial; have c0:=hp1.cell d0 trivial; have c1:=hp1.cell d1 trivial; have c2:=hp1.cell d2 trivial; have c3:=hp1.cell d3 trivial))
      (go_wp2_with fail);refine (HG.out _ hp1).mono ?_;rintro e wt ⟨rfl,ht⟩;rw [hT];have a1t:=ht.cell a1 trivial;have a2t:=ht.cell a2 trivial;have c3t:=ht.cell c3 trivial;(go_wp2_with fail);go_ret;exact ⟨ret_int' hfin.out.symm,(hk2.trans (hp1.trans ht))⟩
     | true =>
      go_wp2_with fail
      go_region_held3 (fun w'=>w'.cell? ⟨w.heap.size,1,none⟩ = some (.int .i64 3)∧w'.cell? ⟨w.heap.size+1,0,none⟩ = some (.string qq)∧w'.cell? ⟨w.heap.size+1,1,none⟩ = some (.int .i64 0)∧w'.cell? ⟨w.heap.size+1,2,none⟩ = some (.string ⟨#[]⟩)∧w'.cell? ⟨w.heap.size+1,3,none⟩ = some (.string ⟨#[]⟩)) (first | go_keep | exact ⟨by assumption,by assumption,by assumption,by assumption,by assumption⟩) (first | (go_at_call 344; refine (HU.out _).mono ?_; rintro e q ⟨rfl,hq⟩; have hp1 : All ((w.alloc (.cells #[.string key,.int .i64 3,.int .i64 most,.slice oa m oc,.bool needed,.bool secret] 146)).alloc (.cells #[.string qq,.int .i64 0,.string ⟨#[]⟩,.string ⟨#[]⟩] 143)) q:=Kept.trans (by repeat (first | exact Kept.refl _ _ | refine Kept.then_drew ?_ | refine Kept.then_drewN ?_ _ | refine Kept.then_alloc ?_ _)) hq; have a1:=hp1.cell e1 trivial; have a2:=hp1.cell e2 trivial; have a3:=hp1.cell e3 trivial; have c0:=hp1.cell d0 trivial; have c1:=hp1.cell d1 trivial; have c2:=hp1.cell d2 trivial; have c3:=hp1.cell d3 trivial))
      (go_wp2_with fail);refine (HG.out _ hp1).mono ?_;rintro e wt ⟨rfl,ht⟩;rw [hT];have a1t:=ht.cell a1 trivial;have a2t:=ht.cell a2 trivial;have c3t:=ht.cell c3 trivial;(go_wp2_with fail);go_ret;exact ⟨ret_int' hfin.out.symm,(hk2.trans (hp1.trans ht))⟩
    ·have hze : (wds.toList == []) = false:=by rw [beq_eq_false_iff_ne]; exact toList_ne hZ
     cases hT : isTextB wds with
     | false =>
      have hfin:=Lib.hid (show answerF ⟨key,3,most,opts,needed,secret⟩ ⟨qq,0,⟨#[]⟩,wds⟩ = 3 from (answerF_3 rfl (by unfold spareOk; rw [if_neg (show ¬ (3 : Int) = 1 by decide),if_neg (show ¬ (3 : Int) = 2 by decide)]; exact ⟨rfl,rfl⟩)).trans (if_pos (Or.inr hT)));clear hZ;go_wp2_with fail
      go_region_held3 (fun w'=>w'.cell? ⟨w.heap.size,1,none⟩ = some (.int .i64 3)∧w'.cell? ⟨w.heap.size+1,0,none⟩ = some (.string qq)∧w'.cell? ⟨w.heap.size+1,1,none⟩ = some (.int .i64 0)∧w'.cell? ⟨w.heap.size+1,2,none⟩ = some (.string ⟨#[]⟩)∧w'.cell? ⟨w.heap.size+1,3,none⟩ = some (.string wds)) (first | go_keep | exact ⟨by assumption,by assumption,by assumption,by assumption,by assumption⟩) (first | (go_at_call 344; refine (HU.out _).mono ?_; rintro e q ⟨rfl,hq⟩; have hp1 : All ((w.alloc (.cells #[.string key,.int .i64 3,.int .i64 most,.slice oa m oc,.bool needed,.bool secret] 146)).alloc (.cells #[.string qq,.int .i64 0,.string ⟨#[]⟩,.string wds] 143)) q:=Kept.trans (by repeat (first | exact Kept.refl _ _ | refine Kept.then_drew ?_ | refine Kept.then_drewN ?_ _ | refine Kept.then_alloc ?_ _)) hq; have a1:=hp1.cell e1 trivial; have a2:=hp1.cell e2 trivial; have a3:=hp1.cell e3 trivial; have c0:=hp1.cell d0 trivial; have c1:=hp1.cell d1 trivial; have c2:=hp1.cell d2 trivial; have c3:=hp1.cell d3 trivial))
      (go_wp2_with fail);refine (HG.out _ hp1).mono ?_;rintro e wt ⟨rfl,ht⟩;rw [hT];have a1t:=ht.cell a1 trivial;have a2t:=ht.cell a2 trivial;have c3t:=ht.cell c3 trivial;(go_wp2_with fail);go_ret;exact ⟨ret_int' hfin.out.symm,(hk2.trans (hp1.trans ht))⟩
     | true =>
      (have hno : ¬ (wds.size = 0∨isTextB wds = false):=fun h=>h.elim hZ (fun e=>by rw [hT] at e; cases e));by_cases hL : most < (wds.size : Int)
      ·(have hd : decide (most < (wds.size : Int)) = true:=by simpa using hL);have hfin:=Lib.hid (show answerF ⟨key,3,most,opts,needed,secret⟩ ⟨qq,0,⟨#[]⟩,wds⟩ = 2 from (answerF_3 rfl (by unfold spareOk; rw [if_neg (show ¬ (3 : Int) = 1 by decide),if_neg (show ¬ (3 : Int) = 2 by decide)]; exact ⟨rfl,rfl⟩)).trans ((if_neg hno).trans (if_pos hL)));clear hZ hno hL;go_wp2_with fail
       go_region_held3 (fun w'=>w'.cell? ⟨w.heap.size,1,none⟩ = some (.int .i64 3)∧w'.cell? ⟨w.heap.size+1,0,none⟩ = some (.string qq)∧w'.cell? ⟨w.heap.size+1,1,none⟩ = some (.int .i64 0)∧w'.cell? ⟨w.heap.size+1,2,none⟩ = some (.string ⟨#[]⟩)∧w'.cell? ⟨w.heap.size+1,3,none⟩ = some (.string wds)) (first | go_keep | exact ⟨by assumption,by assumption,by assumption,by assumption,by assumption⟩) (first | (go_at_call 344; refine (HU.out _).mono ?_; rintro e q ⟨rfl,hq⟩; have hp1 : All ((w.alloc (.cells #[.string key,.int .i64 3,.int .i64 most,.slice oa m oc,.bool needed,.bool secret] 146)).alloc (.cells #[.string qq,.int .i64 0,.string ⟨#[]⟩,.string wds] 143)) q:=Kept.trans (by repeat (first | exact Kept.refl _ _ | refine Kept.then_drew ?_ | refine Kept.then_drewN ?_ _ | refine Kept.then_alloc ?_ _)) hq; have a1:=hp1.cell e1 trivial; have a2:=hp1.cell e2 trivial; have a3:=hp1.cell e3 trivial; have c0:=hp1.cell d0 trivial; have c1:=hp1.cell d1 trivial; have c2:=hp1.cell d2 trivial; have c3:=hp1.cell d3 trivial))
       (go_wp2_with fail);refine (HG.out _ hp1).mono ?_;rintro e wt ⟨rfl,ht⟩;rw [hT];have a1t:=ht.cell a1 trivial;have a2t:=ht.cell a2 trivial;have c3t:=ht.cell c3 trivial;(go_wp2_with fail);go_ret;exact ⟨ret_int' hfin.out.symm,(hk2.trans (hp1.trans ht))⟩
      ·(have hd : decide (most < (wds.size : Int)) = false:=by simpa using hL);have hfin:=Lib.hid (show answerF ⟨key,3,most,opts,needed,secret⟩ ⟨qq,0,⟨#[]⟩,wds⟩ = 0 from (answerF_3 rfl (by unfold spareOk; rw [if_neg (show ¬ (3 : Int) = 1 by decide),if_neg (show ¬ (3 : Int) = 2 by decide)]; exact ⟨rfl,rfl⟩)).trans ((if_neg hno).trans (if_neg hL)));clear hZ hno hL;go_wp2_with fail
       go_region_held3 (fun w'=>w'.cell? ⟨w.heap.size,1,none⟩ = some (.int .i64 3)∧w'.cell? ⟨w.heap.size+1,0,none⟩ = some (.string qq)∧w'.cell? ⟨w.heap.size+1,1,none⟩ = some (.int .i64 0)∧w'.cell? ⟨w.heap.size+1,2,none⟩ = some (.string ⟨#[]⟩)∧w'.cell? ⟨w.heap.size+1,3,none⟩ = some (.string wds)) (first | go_keep | exact ⟨by assumption,by assumption,by assumption,by assumption,by assumption⟩) (first | (go_at_call 344; refine (HU.out _).mono ?_; rintro e q ⟨rfl,hq⟩; have hp1 : All ((w.alloc (.cells #[.string key,.int .i64 3,.int .i64 most,.slice oa m oc,.bool needed,.bool secret] 146)).alloc (.cells #[.string qq,.int .i64 0,.string ⟨#[]⟩,.string wds] 143)) q:=Kept.trans (by repeat (first | exact Kept.refl _ _ | refine Kept.then_drew ?_ | refine Kept.then_drewN ?_ _ | refine Kept.then_alloc ?_ _)) hq; have a1:=hp1.cell e1 trivial; have a2:=hp1.cell e2 trivial; have a3:=hp1.cell e3 trivial; have c0:=hp1.cell d0 trivial; have c1:=hp1.cell d1 trivial; have c2:=hp1.cell d2 trivial; have c3:=hp1.cell d3 trivial))
       (go_wp2_with fail);refine (HG.out _ hp1).mono ?_;rintro e wt ⟨rfl,ht⟩;rw [hT];have a1t:=ht.cell a1 trivial;have a2t:=ht.cell a2 trivial;have c3t:=ht.cell c3 trivial;(go_wp2_with fail);go_ret;exact ⟨ret_int' hfin.out.symm,(hk2.trans (hp1.trans ht))⟩
   ·obtain ⟨z1,z2⟩:=nempty hB (s:=opt);have hfin:=Lib.hid (show answerF ⟨key,3,most,opts,needed,secret⟩ ⟨qq,0,opt,wds⟩ = 3 from answerF_spare (by unfold spareOk; rw [if_neg (show ¬ (3 : Int) = 1 by decide),if_neg (show ¬ (3 : Int) = 2 by decide)]; exact fun h=>hB h.2));go_wp2_with fail
    go_region_held3 (fun w'=>w'.cell? ⟨w.heap.size,1,none⟩ = some (.int .i64 3)∧w'.cell? ⟨w.heap.size+1,0,none⟩ = some (.string qq)∧w'.cell? ⟨w.heap.size+1,1,none⟩ = some (.int .i64 0)∧w'.cell? ⟨w.heap.size+1,2,none⟩ = some (.string opt)∧w'.cell? ⟨w.heap.size+1,3,none⟩ = some (.string wds)) (first | go_keep | exact ⟨by assumption,by assumption,by assumption,by assumption,by assumption⟩) (first | (go_at_call 344; refine (HU.out _).mono ?_; rintro e q ⟨rfl,hq⟩; have hp1 : All ((w.alloc (.cells #[.string key,.int .i64 3,.int .i64 most,.slice oa m oc,.bool needed,.bool secret] 146)).alloc (.cells #[.string qq,.int .i64 0,.string opt,.string wds] 143)) q:=Kept.trans (by repeat (first | exact Kept.refl _ _ | refine Kept.then_drew ?_ | refine Kept.then_drewN ?_ _ | refine Kept.then_alloc ?_ _)) hq; have a1:=hp1.cell e1 trivial; have a2:=hp1.cell e2 trivial; have a3:=hp1.cell e3 trivial; have c0:=hp1.cell d0 trivial; have c1:=hp1.cell d1 trivial; have c2:=hp1.cell d2 trivial; have c3:=hp1.cell d3 trivial))
    (go_wp2_with fail);go_ret;exact ⟨ret_int' hfin.out.symm,(hk2.trans hp1)⟩
  ·(have z1 : (num == 0) = false:=by simpa using hA);(have z2 : ((0 : Int) == num) = false:=by simpa using fun e=>hA e.symm);have hfin:=Lib.hid (show answerF ⟨key,3,most,opts,needed,secret⟩ ⟨qq,num,opt,wds⟩ = 3 from answerF_spare (by unfold spareOk; rw [if_neg (show ¬ (3 : Int) = 1 by decide),if_neg (show ¬ (3 : Int) = 2 by decide)]; exact fun h=>hA h.1));go_wp2_with fail
   go_region_held3 (fun w'=>w'.cell? ⟨w.heap.size,1,none⟩ = some (.int .i64 3)∧w'.cell? ⟨w.heap.size+1,0,none⟩ = some (.string qq)∧w'.cell? ⟨w.heap.size+1,1,none⟩ = some (.int .i64 num)∧w'.cell? ⟨w.heap.size+1,2,none⟩ = some (.string opt)∧w'.cell? ⟨w.heap.size+1,3,none⟩ = some (.string wds)) (first | go_keep | exact ⟨by assumption,by assumption,by assumption,by assumption,by assumption⟩) (first | (go_at_call 344; refine (HU.out _).mono ?_; rintro e q ⟨rfl,hq⟩; have hp1 : All ((w.alloc (.cells #[.string key,.int .i64 3,.int .i64 most,.slice oa m oc,.bool needed,.bool secret] 146)).alloc (.cells #[.string qq,.int .i64 num,.string opt,.string wds] 143)) q:=Kept.trans (by repeat (first | exact Kept.refl _ _ | refine Kept.then_drew ?_ | refine Kept.then_drewN ?_ _ | refine Kept.then_alloc ?_ _)) hq; have a1:=hp1.cell e1 trivial; have a2:=hp1.cell e2 trivial; have a3:=hp1.cell e3 trivial; have c0:=hp1.cell d0 trivial; have c1:=hp1.cell d1 trivial; have c2:=hp1.cell d2 trivial; have c3:=hp1.cell d3 trivial))
   (go_wp2_with fail);go_ret;exact ⟨ret_int' hfin.out.symm,(hk2.trans hp1)⟩
 (have g1 : (kind == 1) = false:=by simpa using hn1);(have g2 : (kind == 2) = false:=by simpa using hn2);(have g3 : (kind == 3) = false:=by simpa using hn3);have HU:=Lib.hid (fun (wx : World)=>(show Calls Tryz.prog 344 #[.int .i64 kind,.agg #[.string qq,.int .i64 num,.string opt,.string wds]] wx fun e w'=>e = .returned (.agg #[.string qq,.int .i64 0,.string ⟨#[]⟩,.string wds])∧All wx w' from by have h:=used_any kind ⟨qq,num,opt,wds⟩ wx; rw [usedA,if_neg hn1,if_neg hn2] at h; exact h));by_cases hA : num = 0
 ·obtain rfl : num = 0:=hA;by_cases hB : opt.size = 0
  ·obtain rfl : opt = ⟨#[]⟩:=empty_of_size hB;have hfin:=Lib.hid (show answerF ⟨key,kind,most,opts,needed,secret⟩ ⟨qq,0,⟨#[]⟩,wds⟩ = 0 from answerF_o hn1 hn2 hn3 (by unfold spareOk; rw [if_neg hn1,if_neg hn2]; exact ⟨rfl,rfl⟩));go_wp2_with fail
   go_region_held3 (fun w'=>w'.cell? ⟨w.heap.size,1,none⟩ = some (.int .i64 kind)∧w'.cell? ⟨w.heap.size+1,0,none⟩ = some (.string qq)∧w'.cell? ⟨w.heap.size+1,1,none⟩ = some (.int .i64 0)∧w'.cell? ⟨w.heap.size+1,2,none⟩ = some (.string ⟨#[]⟩)∧w'.cell? ⟨w.heap.size+1,3,none⟩ = some (.string wds)) (first | go_keep | exact ⟨by assumption,by assumption,by assumption,by assumption,by assumption⟩) (first | (go_at_call 344; refine (HU.out _).mono ?_; rintro e q ⟨rfl,hq⟩; have hp1 : All ((w.alloc (.cells #[.string key,.int .i64 kind,.int .i64 most,.slice oa m oc,.bool needed,.bool secret] 146)).alloc (.cells #[.string qq,.int .i64 0,.string ⟨#[]⟩,.string wds] 143)) q:=Kept.trans (by repeat (first | exact Kept.refl _ _ | refine Kept.then_drew ?_ | refine Kept.then_drewN ?_ _ | refine Kept.then_alloc ?_ _)) hq; have a1:=hp1.cell e1 trivial; have a2:=hp1.cell e2 trivial; have a3:=hp1.cell e3 trivial; have c0:=hp1.cell d0 trivial; have c1:=hp1.cell d1 trivial; have c2:=hp1.cell d2 trivial; have c3:=hp1.cell d3 trivial))
   (go_wp2_with fail);go_ret;exact ⟨ret_int' hfin.out.symm,(hk2.trans hp1)⟩
  ·obtain ⟨z1,z2⟩:=nempty hB (s:=opt);have hfin:=Lib.hid (show answerF ⟨key,kind,most,opts,needed,secret⟩ ⟨qq,0,opt,wds⟩ = 3 from answerF_spare (by unfold spareOk; rw [if_neg hn1,if_neg hn2]; exact fun h=>hB h.2));go_wp2_with fail
   go_region_held3 (fun w'=>w'.cell? ⟨w.heap.size,1,none⟩ = some (.int .i64 kind)∧w'.cell? ⟨w.heap.size+1,0,none⟩ = some (.string qq)∧w'.cell? ⟨w.heap.size+1,1,none⟩ = some (.int .i64 0)∧w'.cell? ⟨w.heap.size+1,2,none⟩ = some (.string opt)∧w'.cell? ⟨w.heap.size+1,3,none⟩ = some (.string wds)) (first | go_keep | exact ⟨by assumption,by assumption,by assumption,by assumption,by assumption⟩) (first | (go_at_call 344; refine (HU.out _).mono ?_; rintro e q ⟨rfl,hq⟩; have hp1 : All ((w.alloc (.cells #[.string key,.int .i64 kind,.int .i64 most,.slice oa m oc,.bool needed,.bool secret] 146)).alloc (.cells #[.string qq,.int .i64 0,.string opt,.string wds] 143)) q:=Kept.trans (by repeat (first | exact Kept.refl _ _ | refine Kept.then_drew ?_ | refine Kept.then_drewN ?_ _ | refine Kept.then_alloc ?_ _)) hq; have a1:=hp1.cell e1 trivial; have a2:=hp1.cell e2 trivial; have a3:=hp1.cell e3 trivial; have c0:=hp1.cell d0 trivial; have c1:=hp1.cell d1 trivial; have c2:=hp1.cell d2 trivial; have c3:=hp1.cell d3 trivial))
   (go_wp2_with fail);go_ret;exact ⟨ret_int' hfin.out.symm,(hk2.trans hp1)⟩
 ·(have z1 : (num == 0) = false:=by simpa using hA);(have z2 : ((0 : Int) == num) = false:=by simpa using fun e=>hA e.symm);have hfin:=Lib.hid (show answerF ⟨key,kind,most,opts,needed,secret⟩ ⟨qq,num,opt,wds⟩ = 3 from answerF_spare (by unfold spareOk; rw [if_neg hn1,if_neg hn2]; exact fun h=>hA h.1));go_wp2_with fail
  go_region_held3 (fun w'=>w'.cell? ⟨w.heap.size,1,none⟩ = some (.int .i64 kind)∧w'.cell? ⟨w.heap.size+1,0,none⟩ = some (.string qq)∧w'.cell? ⟨w.heap.size+1,1,none⟩ = some (.int .i64 num)∧w'.cell? ⟨w.heap.size+1,2,none⟩ = some (.string opt)∧w'.cell? ⟨w.heap.size+1,3,none⟩ = some (.string wds)) (first | go_keep | exact ⟨by assumption,by assumption,by assumption,by assumption,by assumption⟩) (first | (go_at_call 344; refine (HU.out _).mono ?_; rintro e q ⟨rfl,hq⟩; have hp1 : All ((w.alloc (.cells #[.string key,.int .i64 kind,.int .i64 most,.slice oa m oc,.bool needed,.bool secret] 146)).alloc (.cells #[.string qq,.int .i64 num,.string opt,.string wds] 143)) q:=Kept.trans (by repeat (first | exact Kept.refl _ _ | refine Kept.then_drew ?_ | refine Kept.then_drewN ?_ _ | refine Kept.then_alloc ?_ _)) hq; have a1:=hp1.cell e1 trivial; have a2:=hp1.cell e2 trivial; have a3:=hp1.cell e3 trivial; have c0:=hp1.cell d0 trivial; have c1:=hp1.cell d1 trivial; have c2:=hp1.cell d2 trivial; have c3:=hp1.cell d3 trivial))
  (go_wp2_with fail);go_ret;exact ⟨ret_int' hfin.out.symm,(hk2.trans hp1)⟩

set_option maxRecDepth 100000 in
set_option maxHeartbeats 6400000 in
theorem answerFaultR_any (q : Qst) (x : Ans4) (oa : Option Addr) (oc : Nat) (w : World) (hsm : QstSmall q) (hxm : AnsSmall x) (hs : Sl RStr 1 (fun _=>True) w oa q.opts.length q.opts) (hg : Tabs w) :
  Calls Tryz.prog 249 #[.agg #[.string q.key,.int .i64 q.kind,.int .i64 q.most,.slice oa q.opts.length oc,.bool q.needed,.bool q.secret],ansVal x] w fun e w'=>e = .returned (.int .i64 (answerF q x))∧All w w':=by
 obtain ⟨key,kind,most,opts,needed,secret⟩:=q;obtain ⟨qq,num,opt,wds⟩:=x;obtain ⟨-,hsm⟩:=hsm;obtain ⟨-,hx2,hx3,-⟩:=hxm;dsimp only at *;obtain ⟨m,hm⟩ : ∃ m,m = opts.length:=⟨_,rfl⟩;have HM:=Lib.hid hm;rw [← hm] at hs hsm ⊢;clear hm;have hk2 : All w ((w.alloc (.cells #[.string key,.int .i64 kind,.int .i64 most,.slice oa m oc,.bool needed,.bool secret] 146)).alloc (.cells #[.string qq,.int .i64 num,.string opt,.string wds] 143)):=(Kept.alloc _ _ _).then_alloc _;have b1:=heap_old (.cells #[.string qq,.int .i64 num,.string opt,.string wds] 143) (heap_at w (.cells #[.string key,.int .i64 kind,.int .i64 most,.slice oa m oc,.bool needed,.bool secret] 146) _ rfl);have b2:=heap_at (w.alloc (.cells #[.string key,.int .i64 kind,.int .i64 most,.slice oa m oc,.bool needed,.bool secret] 146)) (.cells #[.string qq,.int .i64 num,.string opt,.string wds] 143) (w.heap.size+1) (by simp);have HS:=Lib.hid (fun (wx : World) (h : All ((w.alloc (.cells #[.string key,.int .i64 kind,.int .i64 most,.slice oa m oc,.bool needed,.bool secret] 146)).alloc (.cells #[.string qq,.int .i64 num,.string opt,.string wds] 143)) wx)=>contains_any oa m oc opts opt wx ((hs.keep RStr.ok hk2).keep RStr.ok h) (by omega));have HG:=Lib.hid (fun (wx : World) (h : All ((w.alloc (.cells #[.string key,.int .i64 kind,.int .i64 most,.slice oa m oc,.bool needed,.bool secret] 146)).alloc (.cells #[.string qq,.int .i64 num,.string opt,.string wds] 143)) wx)=>isTextR_any wds wx hx3 ((hg.keep hk2).keep h));clear hs hg;have e0:=cell_at (i:=0) b1 rfl;have e1:=cell_at (i:=1) b1 rfl;have e2:=cell_at (i:=2) b1 rfl;have e3:=cell_at (i:=3) b1 rfl;have e4:=cell_at (i:=4) b1 rfl;have e5:=cell_at (i:=5) b1 rfl;have d0:=cell_at (i:=0) b2 rfl;have d1:=cell_at (i:=1) b2 rfl;have d2:=cell_at (i:=2) b2 rfl;have d3:=cell_at (i:=3) b2 rfl;clear b1 b2;(go_enter Tryz.func249,Tryz.ntmps249);by_cases hn1 : kind = 1
 ·subst hn1;by_cases hA : opt.size = 0
  ·obtain rfl : opt = ⟨#[]⟩:=empty_of_size hA;by_cases hB : wds.size = 0
   ·obtain rfl : wds = ⟨#[]⟩:=empty_of_size hB;by_cases hN : num < 0∨most < num
    ·(have hd : decide (0≤num∧num≤most) = false:=by simp; omega);have hfin:=Lib.hid (show answerF ⟨key,1,most,opts,needed,secret⟩ ⟨qq,num,⟨#[]⟩,⟨#[]⟩⟩ = 1 from (answerF_1 rfl (by unfold spareOk; rw [if_pos rfl]; exact ⟨rfl,rfl⟩)).trans (if_pos hN));clear hN;(go_wp2_with fail);refine (in_any num 0 most _).mono ?_;rintro e wq ⟨rfl,hh⟩;subst hh;rw [hd];(go_wp2_with fail);go_ret;exact ⟨ret_int' hfin.out.symm,(hk2.then_alloc _)⟩
    ·(have hd : decide (0≤num∧num≤most) = true:=by simp; omega);have hfin:=Lib.hid (show answerF ⟨key,1,most,opts,needed,secret⟩ ⟨qq,num,⟨#[]⟩,⟨#[]⟩⟩ = 0 from (answerF_1 rfl (by unfold spareOk; rw [if_pos rfl]; exact ⟨rfl,rfl⟩)).trans (if_neg hN));clear hN;(go_wp2_with fail);refine (in_any num 0 most _).mono ?_;rintro e wq ⟨rfl,hh⟩;subst hh;rw [hd];(go_wp2_with fail);go_ret;exact ⟨ret_int' hfin.out.symm,(hk2.then_alloc _)⟩
   ·obtain ⟨z1,z2⟩:=nempty hB (s:=wds);have hfin:=Lib.hid (show answerF ⟨key,1,most,opts,needed,secret⟩ ⟨qq,num,⟨#[]⟩,wds⟩ = 3 from answerF_spare (by unfold spareOk; rw [if_pos rfl]; exact fun h=>hB h.2));(go_wp2_with fail);go_ret;exact ⟨ret_int' hfin.out.symm,(hk2.then_alloc _)⟩
  ·obtain ⟨z1,z2⟩:=nempty hA (s:=opt);have hfin:=Lib.hid (show answerF ⟨key,1,most,opts,needed,secret⟩ ⟨qq,num,opt,wds⟩ = 3 from answerF_spare (by unfold spareOk; rw [if_pos rfl]; exact fun h=>hA h.1));(go_wp2_with fail);go_ret;exact ⟨ret_int' hfin.out.symm,(hk2.then_alloc _)⟩
 by_cases hn2 : kind = 2
 ·subst hn2;by_cases hA : num = 0
  ·obtain rfl : num = 0:=hA;by_cases hB : wds.size = 0
   ·obtain rfl : wds = ⟨#[]⟩:=empty_of_size hB
    cases hM : memB opt opts with
    | false =>
     have hfin:=Lib.hid (show answerF ⟨key,2,most,opts,needed,secret⟩ ⟨qq,0,opt,⟨#[]⟩⟩ = 8 from (answerF_2 rfl (by unfold spareOk; rw [if_neg (show ¬ (2 : Int) = 1 by decide),if_pos rfl]; exact ⟨rfl,rfl⟩)).trans (if_pos hM));(go_wp2_with fail);refine (HS.out _ (Kept.alloc _ _ _)).mono ?_;rintro e wq ⟨rfl,hh⟩;subst hh;rw [hM];(go_wp2_with fail);go_ret;exact ⟨ret_int' hfin.out.symm,(hk2.then_alloc _)⟩
    | true =>
     have hfin:=Lib.hid (show answerF ⟨key,2,most,opts,needed,secret⟩ ⟨qq,0,opt,⟨#[]⟩⟩ = 0 from (answerF_2 rfl (by unfold spareOk; rw [if_neg (show ¬ (2 : Int) = 1 by decide),if_pos rfl]; exact ⟨rfl,rfl⟩)).trans (if_neg (by rw [hM]; decide)));(go_wp2_with fail);refine (HS.out _ (Kept.alloc _ _ _)).mono ?_;rintro e wq ⟨rfl,hh⟩;subst hh;rw [hM];(go_wp2_with fail);go_ret;exact ⟨ret_int' hfin.out.symm,(hk2.then_alloc _)⟩
   ·obtain ⟨z1,z2⟩:=nempty hB (s:=wds);have hfin:=Lib.hid (show answerF ⟨key,2,most,opts,needed,secret⟩ ⟨qq,0,opt,wds⟩ = 3 from answerF_spare (by unfold spareOk; rw [if_neg (show ¬ (2 : Int) = 1 by decide),if_pos rfl]; exact fun h=>hB h.2));(go_wp2_with fail);go_ret;exact ⟨ret_int' hfin.out.symm,(hk2.then_alloc _)⟩
  ·(have z1 : (num == 0) = false:=by simpa using hA);(have z2 : ((0 : Int) == num) = false:=by simpa using fun e=>hA e.symm);have hfin:=Lib.hid (show answerF ⟨key,2,most,opts,needed,secret⟩ ⟨qq,num,opt,wds⟩ = 3 from answerF_spare (by unfold spareOk; rw [if_neg (show ¬ (2 : Int) = 1 by decide),if_pos rfl]; exact fun h=>hA h.1));(go_wp2_with fail);go_ret;exact ⟨ret_int' hfin.out.symm,(hk2.then_alloc _)⟩
 by_cases hn3 : kind = 3
 ·subst hn3;by_cases hA : num = 0
  ·obtain rfl : num = 0:=hA;by_cases hB : opt.size = 0
   ·obtain rfl : opt = ⟨#[]⟩:=empty_of_size hB;by_cases hZ : wds.size = 0
    ·obtain rfl : wds = ⟨#[]⟩:=empty_of_size hZ;have hfin:=Lib.hid (show answerF ⟨key,3,most,opts,needed,secret⟩ ⟨qq,0,⟨#[]⟩,⟨#[]⟩⟩ = 3 from (answerF_3 rfl (by unfold spareOk; rw [if_neg (show ¬ (3 : Int) = 1 by decide),if_neg (show ¬ (3 : Int) = 2 by decide)]; exact ⟨rfl,rfl⟩)).trans (if_pos (Or.inl rfl)));(go_wp2_with fail);go_ret;exact ⟨ret_int' hfin.out.symm,(hk2.then_alloc _)⟩
    ·have hze : (wds.toList == []) = false:=by rw [beq_eq_false_iff_ne]; exact toList_ne hZ
     cases hT : isTextB wds with
     | false =>
      have hfin:=Lib.hid (show answerF ⟨key,3,most,opts,needed,secret⟩ ⟨qq,0,⟨#[]⟩,wds⟩ = 3 from (answerF_3 rfl (by unfold spareOk; rw [if_neg (show ¬ (3 : Int) = 1 by decide),if_neg (show ¬ (3 : Int) = 2 by decide)]; exact ⟨rfl,rfl⟩)).trans (if_pos (Or.inr hT)));clear hZ;(go_wp2_with fail);refine (HG.out _ (Kept.alloc _ _ _)).mono ?_;rintro e wt ⟨rfl,ht⟩;rw [hT];have k3:=ht.cell (Kept.cell (F:=fun _=>True) (Kept.alloc _ _ _) d3 trivial) trivial;have k1:=ht.cell (Kept.cell (F:=fun _=>True) (Kept.alloc _ _ _) e1 trivial) trivial;have k2:=ht.cell (Kept.cell (F:=fun _=>True) (Kept.alloc _ _ _) e2 trivial) trivial;(go_wp2_with fail);go_ret;exact ⟨ret_int' hfin.out.symm,((hk2.then_alloc _).trans ht)⟩
     | true =>
      (have hno : ¬ (wds.size = 0∨isTextB wds = false):=fun h=>h.elim hZ (fun e=>by rw [hT] at e; cases e));by_cases hL : most < (wds.size : Int)
      ·(have hd : decide (most < (wds.size : Int)) = true:=by simpa using hL);have hfin:=Lib.hid (show answerF ⟨key,3,most,opts,needed,secret⟩ ⟨qq,0,⟨#[]⟩,wds⟩ = 2 from (answerF_3 rfl (by unfold spareOk; rw [if_neg (show ¬ (3 : Int) = 1 by decide),if_neg (show ¬ (3 : Int) = 2 by decide)]; exact ⟨rfl,rfl⟩)).trans ((if_neg hno).trans (if_pos hL)));clear hZ hno hL;(go_wp2_with fail);refine (HG.out _ (Kept.alloc _ _ _)).mono ?_;rintro e wt ⟨rfl,ht⟩;rw [hT];have k3:=ht.cell (Kept.cell (F:=fun _=>True) (Kept.alloc _ _ _) d3 trivial) trivial;have k1:=ht.cell (Kept.cell (F:=fun _=>True) (Kept.alloc _ _ _) e1 trivial) trivial;have k2:=ht.cell (Kept.cell (F:=fun _=>True) (Kept.alloc _ _ _) e2 trivial) trivial;(go_wp2_with fail);go_ret;exact ⟨ret_int' hfin.out.symm,((hk2.then_alloc _).trans ht)⟩
      ·(have hd : decide (most < (wds.size : Int)) = false:=by simpa using hL);have hfin:=Lib.hid (show answerF ⟨key,3,most,opts,needed,secret⟩ ⟨qq,0,⟨#[]⟩,wds⟩ = 0 from (answerF_3 rfl (by unfold spareOk; rw [if_neg (show ¬ (3 : Int) = 1 by decide),if_neg (show ¬ (3 : Int) = 2 by decide)]; exact ⟨rfl,rfl⟩)).trans ((if_neg hno).trans (if_neg hL)));clear hZ hno hL;(go_wp2_with fail);refine (HG.out _ (Kept.alloc _ _ _)).mono ?_;rintro e wt ⟨rfl,ht⟩;rw [hT];have k3:=ht.cell (Kept.cell (F:=fun _=>True) (Kept.alloc _ _ _) d3 trivial) trivial;have k1:=ht.cell (Kept.cell (F:=fun _=>True) (Kept.alloc _ _ _) e1 trivial) trivial;have k2:=ht.cell (Kept.cell (F:=fun _=>True) (Kept.alloc _ _ _) e2 trivial) trivial;(go_wp2_with fail);go_ret;exact ⟨ret_int' hfin.out.symm,((hk2.then_alloc _).trans ht)⟩
   ·obtain ⟨z1,z2⟩:=nempty hB (s:=opt);have hfin:=Lib.hid (show answerF ⟨key,3,most,opts,needed,secret⟩ ⟨qq,0,opt,wds⟩ = 3 from answerF_spare (by unfold spareOk; rw [if_neg (show ¬ (3 : Int) = 1 by decide),if_neg (show ¬ (3 : Int) = 2 by decide)]; exact fun h=>hB h.2));(go_wp2_with fail);go_ret;exact ⟨ret_int' hfin.out.symm,(hk2.then_alloc _)⟩
  ·(have z1 : (num == 0) = false:=by simpa using hA);(have z2 : ((0 : Int) == num) = false:=by simpa using fun e=>hA e.symm);have hfin:=Lib.hid (show answerF ⟨key,3,most,opts,needed,secret⟩ ⟨qq,num,opt,wds⟩ = 3 from answerF_spare (by unfold spareOk; rw [if_neg (show ¬ (3 : Int) = 1 by decide),if_neg (show ¬ (3 : Int) = 2 by decide)]; exact fun h=>hA h.1));(go_wp2_with fail);go_ret;exact ⟨ret_int' hfin.out.symm,(hk2.then_alloc _)⟩
 (have g1 : (kind == 1) = false:=by simpa using hn1);(have g2 : (kind == 2) = false:=by simpa using hn2);(have g3 : (kind == 3) = false:=by simpa using hn3);by_cases hA : num = 0
 ·obtain rfl : num = 0:=hA;by_cases hB : opt.size = 0
  ·obtain rfl : opt = ⟨#[]⟩:=empty_of_size hB;have hfin:=Lib.hid (show answerF ⟨key,kind,most,opts,needed,secret⟩ ⟨qq,0,⟨#[]⟩,wds⟩ = 0 from answerF_o hn1 hn2 hn3 (by unfold spareOk; rw [if_neg hn1,if_neg hn2]; exact ⟨rfl,rfl⟩));(go_wp2_with fail);go_ret;exact ⟨ret_int' hfin.out.symm,(hk2.then_alloc _)⟩
  ·obtain ⟨z1,z2⟩:=nempty hB (s:=opt);have hfin:=Lib.hid (show answerF ⟨key,kind,most,opts,needed,secret⟩ ⟨qq,0,opt,wds⟩ = 3 from answerF_spare (by unfold spareOk; rw [if_neg hn1,if_neg hn2]; exact fun h=>hB h.2));(go_wp2_with fail);go_ret;exact ⟨ret_int' hfin.out.symm,(hk2.then_alloc _)⟩
 ·(have z1 : (num == 0) = false:=by simpa using hA);(have z2 : ((0 : Int) == num) = false:=by simpa using fun e=>hA e.symm);have hfin:=Lib.hid (show answerF ⟨key,kind,most,opts,needed,secret⟩ ⟨qq,num,opt,wds⟩ = 3 from answerF_spare (by unfold spareOk; rw [if_neg hn1,if_neg hn2]; exact fun h=>hA h.1));(go_wp2_with fail);go_ret;exact ⟨ret_int' hfin.out.symm,(hk2.then_alloc _)⟩

end Go.Proofs.YtjbaijgdkkccbaaGreatDoor

/- The error of answers; the questions that need an answer. -/
namespace Go.Proofs.YtjbaijgdkkccbaaGreatDoor
open Go.RowKit


set_option maxRecDepth 100000 in
set_option maxHeartbeats 6400000 in
theorem answersFault_any (a : Option Addr) (len cap : Nat) (xs : List Qst) (a2 : Option Addr) (l2 cz : Nat) (ys : List Ans4) (w : World) (hs : Sl RQst 6 (fun _=>True) w a len xs) (hl : len≤1000000) (hy : Sl RAns 4 (fun _=>True) w a2 l2 ys) (hg : Tabs w) :
  Calls Tryz.prog 223 #[.slice a len cap,.slice a2 l2 cz] w fun e w'=>e = .returned (.int .i64 (answersF xs ys))∧All w w':=by
 have Hlen:=Lib.hid hs.len;have Hly:=Lib.hid hy.len;have HG:=Lib.hid (fun (wx : World) (h : All w wx)=>hg.keep h);have HSQ:=Lib.hid (fun (wx : World) (h : All w wx)=>hs.keep RQst.ok h);clear hg hs;by_cases hbig : 30 < l2
 ·have hfin:=Lib.hid (answersF_large (sheet:=xs) (l:=ys) (by have:=Hly.out; omega));(have hd : decide ((30 : Int) < (l2 : Int)) = true:=by simp; omega);clear hy;(go_enter Tryz.func223,Tryz.ntmps223);(go_wp2_with fail);go_ret;exact ⟨ret_int' hfin.out.symm,Kept.refl _ _⟩
 have hfin:=Lib.hid (answersF_some (sheet:=xs) (l:=ys) (by have:=Hly.out; omega));(have hd : decide ((30 : Int) < (l2 : Int)) = false:=by simp; omega);(go_enter Tryz.func223,Tryz.ntmps223);(go_wp2_with fail);go_loopw [5,15] (fun lv i wr=>∃ k : Nat,k≤l2∧i = .int .i64 k∧lv = .int .i64 (lastQ xs (ys.take k))∧AnsAt xs ys k∧All w wr) (fun _ i _=>l2 - (intOf i).toNat)
 case atStart=>exact ⟨0,Nat.zero_le _,rfl,by rw [lastQ_zero],AnsAt.zero _ _,Kept.refl _ _⟩
 case round =>
  obtain ⟨k,hk,rfl,rfl,hat,hwr⟩:=hrel;obtain ⟨wo,rfl⟩ : ∃ wo : World,wo = wr:=⟨_,rfl⟩;have HA:=Lib.hid hat
  obtain ⟨lq,hlq⟩ : ∃ z,z = lastQ xs (ys.take k):=⟨_,rfl⟩;have HLQ:=Lib.hid hlq;rw [← hlq];clear hat hlq;by_cases hlt : k < l2
  ·obtain ⟨b2,off2,x,ha2,-,d0,d1,d2,d3,hxs,hx,-⟩:=(hy.keep RAns.ok hwr).atAns hlt;subst ha2;have Hx:=Lib.hid hx;have hwa:=hwr.then_alloc (.cells #[.string x.question,.int .i64 x.number,.string x.option,.string x.words] 143);have hblk:=heap_at wo (.cells #[.string x.question,.int .i64 x.number,.string x.option,.string x.words] 143) _ rfl;have e0:=cell_at (i:=0) hblk rfl;have e1:=cell_at (i:=1) hblk rfl;have e2:=cell_at (i:=2) hblk rfl;have e3:=cell_at (i:=3) hblk rfl;have HP:=Lib.hid (place_any a len cap xs x.question _ (HSQ.out _ hwa) hl);clear hx hblk hy;rcases findG_find (p:=isQ x.question) (xs:=xs) (k:=0) with ⟨hn,hf⟩ | ⟨i,q,hn,hf,hi⟩
   ·have hbad:=Lib.hid (HA.out.none Hx.out hn);clear hn;(go_wp2_with fail);refine HP.out.mono ?_;rintro e w2 ⟨rfl,hw2⟩;rw [hf];clear hf;(go_wp2_with fail);go_ret;exact ⟨ret_int' (by rw [hfin.out]; exact hbad.out.symm),hwa.trans hw2⟩
   ·rw [Nat.zero_add] at hf;have HN:=Lib.hid hn;have HF:=Lib.hid hf;have Hi:=Lib.hid hi;(have hil : i < len:=by have:=(List.getElem?_eq_some_iff.1 hi).1; have:=Hlen.out; omega);(have hi0 : decide ((i : Int) < 0) = false:=by simp);(have hi1 : (0 : Int)≤(i : Int):=by omega);(have hi2 : (i : Int) < (len : Int):=by omega);clear hn hi;by_cases ho : (i : Int)≤lq
    ·have hbad:=Lib.hid (HA.out.order Hx.out HN.out (by rw [HF.out,← HLQ.out]; exact ho));(have hdo : decide ((i : Int)≤lq) = true:=by simpa using ho);(go_wp2_with fail);refine HP.out.mono ?_;rintro e w2 ⟨rfl,hw2⟩;rw [hf];clear hf;(go_wp2_with fail);go_ret;exact ⟨ret_int' (by rw [hfin.out]; exact hbad.out.symm),hwa.trans hw2⟩
    ·have HO:=Lib.hid (show ¬ findG (isQ x.question) 0 xs≤lastQ xs (ys.take k) by rw [HF.out,← HLQ.out]; exact ho);(have hdo : decide ((i : Int)≤lq) = false:=by simpa using ho);clear ho;(go_wp2_with fail);refine HP.out.mono ?_;rintro e w2 ⟨rfl,hw2⟩;rw [hf];clear hf;have hwb:=hwa.trans hw2;have f0:=hw2.cell e0 trivial;have f1:=hw2.cell e1 trivial;have f2:=hw2.cell e2 trivial;have f3:=hw2.cell e3 trivial;obtain ⟨b,off,q',oa,oc,ha,-,c0,c1,c2,c3,c4,c5,hcp,hqs,hos,hqi,-⟩:=(HSQ.out w2 hwb).atQst (k:=i) hil;subst ha;obtain rfl : q' = q:=Option.some.inj (hqi.symm.trans Hi.out);obtain ⟨z,hz⟩ : ∃ z,z = answerF q' x:=⟨_,rfl⟩;have HAF:=Lib.hid (fun (wx : World) (h : All w2 wx)=>answerFault_any q' x oa oc wx hqs hxs (hos.keep RStr.ok h) (HG.out wx (hwb.trans h)));rw [← hz] at HAF;have HZ:=Lib.hid hz;clear hos hqi hwa hw2 e0 e1 e2 e3 HP hz hqs hxs hcp;by_cases hz0 : z = 0
     ·subst hz0;have HNX:=Lib.hid (HA.out.next Hx.out HN.out (by have:=HO.out; omega) HZ.out.symm);go_wp2_with fail
      go_region_held3 (fun w'=>w'.cell? ⟨b,off+i*6,none⟩ = some (.string q'.key)∧w'.cell? ⟨b,off+i*6+1,none⟩ = some (.int .i64 q'.kind)∧w'.cell? ⟨b,off+i*6+2,none⟩ = some (.int .i64 q'.most)∧w'.cell? ⟨b,off+i*6+3,none⟩ = some (.slice oa q'.opts.length oc)∧w'.cell? ⟨b,off+i*6+4,none⟩ = some (.bool q'.needed)∧w'.cell? ⟨b,off+i*6+5,none⟩ = some (.bool q'.secret)∧w'.cell? ⟨wo.heap.size,0,none⟩ = some (.string x.question)∧w'.cell? ⟨wo.heap.size,1,none⟩ = some (.int .i64 x.number)∧w'.cell? ⟨wo.heap.size,2,none⟩ = some (.string x.option)∧w'.cell? ⟨wo.heap.size,3,none⟩ = some (.string x.words)) (first | go_keep | exact ⟨by assumption,by assumption,by assumption,by assumption,by assumption,by assumption,by assumption,by assumption,by assumption,by assumption⟩) (first | (go_at_call 300; refine (HAF.out _ (by repeat (first | exact Kept.refl _ _ | refine Kept.then_drew ?_ | refine Kept.then_drewN ?_ _ | refine Kept.then_alloc ?_ _))).mono ?_; rintro e wq ⟨rfl,hq⟩; have hp1 : All w2 wq:=Kept.trans (by repeat (first | exact Kept.refl _ _ | refine Kept.then_drew ?_ | refine Kept.then_drewN ?_ _ | refine Kept.then_alloc ?_ _)) hq; have m0:=hp1.cell c0 trivial; have m1:=hp1.cell c1 trivial; have m2:=hp1.cell c2 trivial; have m3:=hp1.cell c3 trivial; have m4:=hp1.cell c4 trivial; have m5:=hp1.cell c5 trivial; have n0:=hp1.cell f0 trivial; have n1:=hp1.cell f1 trivial; have n2:=hp1.cell f2 trivial; have n3:=hp1.cell f3 trivial))
      (go_wp2_with fail);go_roundw
      case rel=>exact ⟨k+1,by omega,by go_num,by rw [lastQ_succ Hx.out,HF.out],HNX.out,hwb.trans hp1⟩
      case measure=>simp [intOf]; omega
     ·(have hz1 : (z == 0) = false:=by simpa using hz0);have hbad:=Lib.hid (HA.out.bad Hx.out HN.out (by have:=HO.out; omega) HZ.out.symm hz0);go_wp2_with fail
      go_region_held3 (fun w'=>w'.cell? ⟨b,off+i*6,none⟩ = some (.string q'.key)∧w'.cell? ⟨b,off+i*6+1,none⟩ = some (.int .i64 q'.kind)∧w'.cell? ⟨b,off+i*6+2,none⟩ = some (.int .i64 q'.most)∧w'.cell? ⟨b,off+i*6+3,none⟩ = some (.slice oa q'.opts.length oc)∧w'.cell? ⟨b,off+i*6+4,none⟩ = some (.bool q'.needed)∧w'.cell? ⟨b,off+i*6+5,none⟩ = some (.bool q'.secret)∧w'.cell? ⟨wo.heap.size,0,none⟩ = some (.string x.question)∧w'.cell? ⟨wo.heap.size,1,none⟩ = some (.int .i64 x.number)∧w'.cell? ⟨wo.heap.size,2,none⟩ = some (.string x.option)∧w'.cell? ⟨wo.heap.size,3,none⟩ = some (.string x.words)) (first | go_keep | exact ⟨by assumption,by assumption,by assumption,by assumption,by assumption,by assumption,by assumption,by assumption,by assumption,by assumption⟩) (first | (go_at_call 300; refine (HAF.out _ (by repeat (first | exact Kept.refl _ _ | refine Kept.then_drew ?_ | refine Kept.then_drewN ?_ _ | refine Kept.then_alloc ?_ _))).mono ?_; rintro e wq ⟨rfl,hq⟩; have hp1 : All w2 wq:=Kept.trans (by repeat (first | exact Kept.refl _ _ | refine Kept.then_drew ?_ | refine Kept.then_drewN ?_ _ | refine Kept.then_alloc ?_ _)) hq; have m0:=hp1.cell c0 trivial; have m1:=hp1.cell c1 trivial; have m2:=hp1.cell c2 trivial; have m3:=hp1.cell c3 trivial; have m4:=hp1.cell c4 trivial; have m5:=hp1.cell c5 trivial; have n0:=hp1.cell f0 trivial; have n1:=hp1.cell f1 trivial; have n2:=hp1.cell f2 trivial; have n3:=hp1.cell f3 trivial))
      (go_wp2_with fail);go_ret;exact ⟨ret_int' (by rw [hfin.out]; exact hbad.out.symm),hwb.trans hp1⟩
  ·(have hdk : decide ((k : Int) < (l2 : Int)) = false:=by simp; omega);(go_wp2_with fail);go_ret;exact ⟨ret_int' (by rw [hfin.out]; exact (HA.out.ok (by have:=Hly.out; omega)).symm),hwr⟩

set_option maxRecDepth 100000 in
set_option maxHeartbeats 6400000 in
theorem answersFaultR_any (a : Option Addr) (len cap : Nat) (xs : List Qst) (a2 : Option Addr) (l2 cz : Nat) (ys : List Ans4) (w : World) (hs : Sl RQst 6 (fun _=>True) w a len xs) (hl : len≤1000000) (hy : Sl RAns 4 (fun _=>True) w a2 l2 ys) (hg : Tabs w) :
  Calls Tryz.prog 174 #[.slice a len cap,.slice a2 l2 cz] w fun e w'=>e = .returned (.int .i64 (answersF xs ys))∧All w w':=by
 have Hlen:=Lib.hid hs.len;have Hly:=Lib.hid hy.len;have HG:=Lib.hid (fun (wx : World) (h : All w wx)=>hg.keep h);have HSQ:=Lib.hid (fun (wx : World) (h : All w wx)=>hs.keep RQst.ok h);clear hg hs;by_cases hbig : 30 < l2
 ·have hfin:=Lib.hid (answersF_large (sheet:=xs) (l:=ys) (by have:=Hly.out; omega));(have hd : decide ((30 : Int) < (l2 : Int)) = true:=by simp; omega);clear hy;(go_enter Tryz.func174,Tryz.ntmps174);(go_wp2_with fail);go_ret;exact ⟨ret_int' hfin.out.symm,Kept.refl _ _⟩
 have hfin:=Lib.hid (answersF_some (sheet:=xs) (l:=ys) (by have:=Hly.out; omega));(have hd : decide ((30 : Int) < (l2 : Int)) = false:=by simp; omega);(go_enter Tryz.func174,Tryz.ntmps174);(go_wp2_with fail);go_loopw [5,15] (fun lv i wr=>∃ k : Nat,k≤l2∧i = .int .i64 k∧lv = .int .i64 (lastQ xs (ys.take k))∧AnsAt xs ys k∧All w wr) (fun _ i _=>l2 - (intOf i).toNat)
 case atStart=>exact ⟨0,Nat.zero_le _,rfl,by rw [lastQ_zero],AnsAt.zero _ _,Kept.refl _ _⟩
 case round =>
  obtain ⟨k,hk,rfl,rfl,hat,hwr⟩:=hrel;obtain ⟨wo,rfl⟩ : ∃ wo : World,wo = wr:=⟨_,rfl⟩;have HA:=Lib.hid hat
  obtain ⟨lq,hlq⟩ : ∃ z,z = lastQ xs (ys.take k):=⟨_,rfl⟩;have HLQ:=Lib.hid hlq;rw [← hlq];clear hat hlq;by_cases hlt : k < l2
  ·obtain ⟨b2,off2,x,ha2,-,d0,d1,d2,d3,hxs,hx,-⟩:=(hy.keep RAns.ok hwr).atAns hlt;subst ha2;have Hx:=Lib.hid hx;have hwa:=hwr.then_alloc (.cells #[.string x.question,.int .i64 x.number,.string x.option,.string x.words] 143);have hblk:=heap_at wo (.cells #[.string x.question,.int .i64 x.number,.string x.option,.string x.words] 143) _ rfl;have e0:=cell_at (i:=0) hblk rfl;have e1:=cell_at (i:=1) hblk rfl;have e2:=cell_at (i:=2) hblk rfl;have e3:=cell_at (i:=3) hblk rfl;have HP:=Lib.hid (questionAt_any a len cap xs x.question _ (HSQ.out _ hwa) hl);clear hx hblk hy;rcases findG_find (p:=isQ x.question) (xs:=xs) (k:=0) with ⟨hn,hf⟩ | ⟨i,q,hn,hf,hi⟩
   ·have hbad:=Lib.hid (HA.out.none Hx.out hn);clear hn;(go_wp2_with fail);refine HP.out.mono ?_;rintro e w2 ⟨rfl,hw2⟩;rw [hf];clear hf;(go_wp2_with fail);go_ret;exact ⟨ret_int' (by rw [hfin.out]; exact hbad.out.symm),hwa.trans hw2⟩
   ·rw [Nat.zero_add] at hf;have HN:=Lib.hid hn;have HF:=Lib.hid hf;have Hi:=Lib.hid hi;(have hil : i < len:=by have:=(List.getElem?_eq_some_iff.1 hi).1; have:=Hlen.out; omega);(have hi0 : decide ((i : Int) < 0) = false:=by simp);(have hi1 : (0 : Int)≤(i : Int):=by omega);(have hi2 : (i : Int) < (len : Int):=by omega);clear hn hi;by_cases ho : (i : Int)≤lq
    ·have hbad:=Lib.hid (HA.out.order Hx.out HN.out (by rw [HF.out,← HLQ.out]; exact ho));(have hdo : decide ((i : Int)≤lq) = true:=by simpa using ho);(go_wp2_with fail);refine HP.out.mono ?_;rintro e w2 ⟨rfl,hw2⟩;rw [hf];clear hf;(go_wp2_with fail);go_ret;exact ⟨ret_int' (by rw [hfin.out]; exact hbad.out.symm),hwa.trans hw2⟩
    ·have HO:=Lib.hid (show ¬ findG (isQ x.question) 0 xs≤lastQ xs (ys.take k) by rw [HF.out,← HLQ.out]; exact ho);(have hdo : decide ((i : Int)≤lq) = false:=by simpa using ho);clear ho;(go_wp2_with fail);refine HP.out.mono ?_;rintro e w2 ⟨rfl,hw2⟩;rw [hf];clear hf;have hwb:=hwa.trans hw2;have f0:=hw2.cell e0 trivial;have f1:=hw2.cell e1 trivial;have f2:=hw2.cell e2 trivial;have f3:=hw2.cell e3 trivial;obtain ⟨b,off,q',oa,oc,ha,-,c0,c1,c2,c3,c4,c5,hcp,hqs,hos,hqi,-⟩:=(HSQ.out w2 hwb).atQst (k:=i) hil;subst ha;obtain rfl : q' = q:=Option.some.inj (hqi.symm.trans Hi.out);obtain ⟨z,hz⟩ : ∃ z,z = answerF q' x:=⟨_,rfl⟩;have HAF:=Lib.hid (fun (wx : World) (h : All w2 wx)=>answerFaultR_any q' x oa oc wx hqs hxs (hos.keep RStr.ok h) (HG.out wx (hwb.trans h)));rw [← hz] at HAF;have HZ:=Lib.hid hz;clear hos hqi hwa hw2 e0 e1 e2 e3 HP hz hqs hxs hcp;by_cases hz0 : z = 0
     ·subst hz0;have HNX:=Lib.hid (HA.out.next Hx.out HN.out (by have:=HO.out; omega) HZ.out.symm);go_wp2_with fail
      go_region_held3 (fun w'=>w'.cell? ⟨b,off+i*6,none⟩ = some (.string q'.key)∧w'.cell? ⟨b,off+i*6+1,none⟩ = some (.int .i64 q'.kind)∧w'.cell? ⟨b,off+i*6+2,none⟩ = some (.int .i64 q'.most)∧w'.cell? ⟨b,off+i*6+3,none⟩ = some (.slice oa q'.opts.length oc)∧w'.cell? ⟨b,off+i*6+4,none⟩ = some (.bool q'.needed)∧w'.cell? ⟨b,off+i*6+5,none⟩ = some (.bool q'.secret)∧w'.cell? ⟨wo.heap.size,0,none⟩ = some (.string x.question)∧w'.cell? ⟨wo.heap.size,1,none⟩ = some (.int .i64 x.number)∧w'.cell? ⟨wo.heap.size,2,none⟩ = some (.string x.option)∧w'.cell? ⟨wo.heap.size,3,none⟩ = some (.string x.words)) (first | go_keep | exact ⟨by assumption,by assumption,by assumption,by assumption,by assumption,by assumption,by assumption,by assumption,by assumption,by assumption⟩) (first | (go_at_call 249; refine (HAF.out _ (by repeat (first | exact Kept.refl _ _ | refine Kept.then_drew ?_ | refine Kept.then_drewN ?_ _ | refine Kept.then_alloc ?_ _))).mono ?_; rintro e wq ⟨rfl,hq⟩; have hp1 : All w2 wq:=Kept.trans (by repeat (first | exact Kept.refl _ _ | refine Kept.then_drew ?_ | refine Kept.then_drewN ?_ _ | refine Kept.then_alloc ?_ _)) hq; have m0:=hp1.cell c0 trivial; have m1:=hp1.cell c1 trivial; have m2:=hp1.cell c2 trivial; have m3:=hp1.cell c3 trivial; have m4:=hp1.cell c4 trivial; have m5:=hp1.cell c5 trivial; have n0:=hp1.cell f0 trivial; have n1:=hp1.cell f1 trivial; have n2:=hp1.cell f2 trivial; have n3:=hp1.cell f3 trivial))
      (go_wp2_with fail);go_roundw
      case rel=>exact ⟨k+1,by omega,by go_num,by rw [lastQ_succ Hx.out,HF.out],HNX.out,hwb.trans hp1⟩
      case measure=>simp [intOf]; omega
     ·(have hz1 : (z == 0) = false:=by simpa using hz0);have hbad:=Lib.hid (HA.out.bad Hx.out HN.out (by have:=HO.out; omega) HZ.out.symm hz0);go_wp2_with fail
      go_region_held3 (fun w'=>w'.cell? ⟨b,off+i*6,none⟩ = some (.string q'.key)∧w'.cell? ⟨b,off+i*6+1,none⟩ = some (.int .i64 q'.kind)∧w'.cell? ⟨b,off+i*6+2,none⟩ = some (.int .i64 q'.most)∧w'.cell? ⟨b,off+i*6+3,none⟩ = some (.slice oa q'.opts.length oc)∧w'.cell? ⟨b,off+i*6+4,none⟩ = some (.bool q'.needed)∧w'.cell? ⟨b,off+i*6+5,none⟩ = some (.bool q'.secret)∧w'.cell? ⟨wo.heap.size,0,none⟩ = some (.string x.question)∧w'.cell? ⟨wo.heap.size,1,none⟩ = some (.int .i64 x.number)∧w'.cell? ⟨wo.heap.size,2,none⟩ = some (.string x.option)∧w'.cell? ⟨wo.heap.size,3,none⟩ = some (.string x.words)) (first | go_keep | exact ⟨by assumption,by assumption,by assumption,by assumption,by assumption,by assumption,by assumption,by assumption,by assumption,by assumption⟩) (first | (go_at_call 249; refine (HAF.out _ (by repeat (first | exact Kept.refl _ _ | refine Kept.then_drew ?_ | refine Kept.then_drewN ?_ _ | refine Kept.then_alloc ?_ _))).mono ?_; rintro e wq ⟨rfl,hq⟩; have hp1 : All w2 wq:=Kept.trans (by repeat (first | exact Kept.refl _ _ | refine Kept.then_drew ?_ | refine Kept.then_drewN ?_ _ | refine Kept.then_alloc ?_ _)) hq; have m0:=hp1.cell c0 trivial; have m1:=hp1.cell c1 trivial; have m2:=hp1.cell c2 trivial; have m3:=hp1.cell c3 trivial; have m4:=hp1.cell c4 trivial; have m5:=hp1.cell c5 trivial; have n0:=hp1.cell f0 trivial; have n1:=hp1.cell f1 trivial; have n2:=hp1.cell f2 trivial; have n3:=hp1.cell f3 trivial))
      (go_wp2_with fail);go_ret;exact ⟨ret_int' (by rw [hfin.out]; exact hbad.out.symm),hwb.trans hp1⟩
  ·(have hdk : decide ((k : Int) < (l2 : Int)) = false:=by simp; omega);(go_wp2_with fail);go_ret;exact ⟨ret_int' (by rw [hfin.out]; exact (HA.out.ok (by have:=Hly.out; omega)).symm),hwr⟩

def StrsPost (ss : List ByteArray) (w : World) (e : Ending) (w' : World) : Prop:=∃ v,e = .returned v∧Acc RStr 1 9 (fun _=>False) w.heap.size w' v ss∧All w w'

set_option maxRecDepth 100000 in
set_option maxHeartbeats 6400000 in
theorem missingQ_any (a : Option Addr) (len cap : Nat) (xs : List Qst) (a2 : Option Addr) (l2 cz : Nat) (ys : List Ans4) (w : World) (hs : Sl RQst 6 (fun _=>True) w a len xs) (hl : len≤1000000) (hy : Sl RAns 4 (fun _=>True) w a2 l2 ys) (hl2 : l2≤1000000) :
  Calls Tryz.prog 224 #[.slice a len cap,.slice a2 l2 cz] w (StrsPost (missF xs ys) w):=by
 have Hlen:=Lib.hid hs.len;have HH:=Lib.hid (fun (wx : World) (h : All w wx) (p : ByteArray)=>has_any a2 l2 cz ys p wx (hy.keep RAns.ok h) hl2);clear hy;(go_enter Tryz.func224,Tryz.ntmps224);(go_wp2_with fail);go_loopw [5,10] (fun v i wr=>∃ k : Nat,k≤len∧i = .int .i64 k∧Acc RStr 1 9 (fun _=>False) w.heap.size wr v (missF (xs.take k) ys)∧All w wr) (fun _ i _=>len - (intOf i).toNat)
 case atStart=>exact ⟨0,Nat.zero_le _,rfl,Acc.nil _ _ _ _ _ _,Kept.refl _ _⟩
 case round =>
  obtain ⟨k,hk,rfl,hacc,hwr⟩:=hrel;obtain ⟨wo,rfl⟩ : ∃ wo : World,wo = wr:=⟨_,rfl⟩;obtain ⟨av,cv,rfl,hcv⟩:=hacc.form;obtain ⟨ms,hms⟩ : ∃ s,s = missF (xs.take k) ys:=⟨_,rfl⟩;obtain ⟨m,hm⟩ : ∃ l,l = ms.length:=⟨_,rfl⟩;(have hmk : m≤1000000:=by have h1:=missF_len (xs.take k) ys; have h2:=List.length_take_le k xs; rw [hm,hms]; omega);have HMS:=Lib.hid hms;have HM:=Lib.hid hm;rw [← hms] at hacc hcv ⊢;rw [← hm] at hacc hcv ⊢;clear hms hm;have hwrs:=hwr.size;by_cases hlt : k < len
  ·obtain ⟨b,off,q,oa,oc,ha,-,c0,c1,c2,c3,c4,c5,-,⟨hz1,-⟩,-,-,htk⟩:=(hs.keep RQst.ok hwr).atQst hlt;subst ha;have HT:=Lib.hid (missF_succ (l:=ys) htk);have hwa:=hwr.then_alloc (.cells #[.string q.key,.int .i64 q.kind,.int .i64 q.most,.slice oa q.opts.length oc,.bool q.needed,.bool q.secret] 146);have hacc1:=hacc.keepAll RStr.ok (Kept.alloc (fun _=>True) wo (.cells #[.string q.key,.int .i64 q.kind,.int .i64 q.most,.slice oa q.opts.length oc,.bool q.needed,.bool q.secret] 146));have hblk:=heap_at wo (.cells #[.string q.key,.int .i64 q.kind,.int .i64 q.most,.slice oa q.opts.length oc,.bool q.needed,.bool q.secret] 146) _ rfl;have e0:=cell_at (i:=0) hblk rfl;have e4:=cell_at (i:=4) hblk rfl;clear hacc hwr htk
   cases hnd : q.needed with
   | false =>
    have HE:=Lib.hid (show missF (xs.take (k+1)) ys = ms by rw [HT.out,missQ,hnd]; simp [HMS.out]);rw [hnd] at hacc1 hwa e0 e4 c4;clear hblk HT HMS;(go_wp2_with fail);go_roundw
    case rel=>exact ⟨k+1,by omega,by go_num,by rw [HE.out]; exact hacc1,hwa⟩
    case measure=>simp [intOf]; omega
   | true =>
    have HHQ:=Lib.hid (HH.out _ hwa q.key);rw [hnd] at hacc1 hwa e0 e4 c4 hblk HHQ
    cases hany : ys.any (isA q.key) with
    | true =>
     have HE:=Lib.hid (show missF (xs.take (k+1)) ys = ms by rw [HT.out,missQ,hnd,hany]; simp [HMS.out]);clear hblk HT HMS;(go_wp2_with fail);refine HHQ.out.mono ?_;rintro e w2 ⟨rfl,hw2⟩;rw [hany];have hacc2:=hacc1.keepAll RStr.ok hw2;clear hacc1 HHQ;(go_wp2_with fail);go_roundw
     case rel=>exact ⟨k+1,by omega,by go_num,by rw [HE.out]; exact hacc2,hwa.trans hw2⟩
     case measure=>simp [intOf]; omega
    | false =>
     have HE:=Lib.hid (show missF (xs.take (k+1)) ys = ms ++ [q.key] by rw [HT.out,missQ,hnd,hany]; simp [HMS.out]);clear hblk HT HMS;(go_wp2_with fail);refine HHQ.out.mono ?_;rintro e w2 ⟨rfl,hw2⟩;rw [hany];have hacc2:=hacc1.keepAll RStr.ok hw2;have e0':=hw2.cell e0 trivial;have hwb:=hwa.trans hw2;have hwbs:=hwb.size;clear hacc1 HHQ hwa hw2;(go_wp2_with (at_builtin; refine wp_append1 RStr.ok _ rfl _ _ 29 rfl w.heap.size 9 (.string ⟨#[]⟩) 1 16 Tryz.underlying29 (by kernel_rfl) rfl (by decide) (fun _=>False) _ ms rfl (hacc2.keepAll RStr.ok (Kept.alloc _ _ _)) ⟨_,0,none⟩ 1 [.string q.key] rfl rfl (World.news_of_block (cs:=#[.string q.key]) (heap_alloc_new w2 _)) (by simp [Value.oneCell']) q.key ⟨rfl,hz1⟩ (by have:=HM.out; omega) (by decide) (by simp; omega) ?_));intro p' c' w9 hacc9 hg9 _;have hk9 : All w w9:=(hwb.then_alloc _).grown hg9 (fun j hj=>Or.inl (hacc2.lt j hj).1);clear hg9 hacc2;(go_wp2_with fail);go_roundw
     case rel=>exact ⟨k+1,by omega,by go_num,by rw [HE.out]; exact hacc9,hk9⟩
     case measure=>simp [intOf]; omega
  ·(have hd : decide ((k : Int) < (len : Int)) = false:=by simp; omega);have hxe : xs.take k = xs:=List.take_of_length_le (by have:=Hlen.out; omega);have HF:=Lib.hid (show missF xs ys = ms by rw [HMS.out,hxe]);clear hxe;(go_wp2_with fail);go_ret;exact ⟨_,rfl,by rw [HF.out]; exact hacc,hwr⟩

set_option maxRecDepth 100000 in
set_option maxHeartbeats 6400000 in
theorem missingOf_any (a : Option Addr) (len cap : Nat) (xs : List Qst) (a2 : Option Addr) (l2 cz : Nat) (ys : List Ans4) (w : World) (hs : Sl RQst 6 (fun _=>True) w a len xs) (hl : len≤1000000) (hy : Sl RAns 4 (fun _=>True) w a2 l2 ys) (hl2 : l2≤1000000) :
  Calls Tryz.prog 175 #[.slice a len cap,.slice a2 l2 cz] w (StrsPost (missF xs ys) w):=by
 have Hlen:=Lib.hid hs.len;have HH:=Lib.hid (fun (wx : World) (h : All w wx) (p : ByteArray)=>answered_any a2 l2 cz ys p wx (hy.keep RAns.ok h) hl2);clear hy;(go_enter Tryz.func175,Tryz.ntmps175);(go_wp2_with fail);go_loopw [5,10] (fun v i wr=>∃ k : Nat,k≤len∧i = .int .i64 k∧Acc RStr 1 9 (fun _=>False) w.heap.size wr v (missF (xs.take k) ys)∧All w wr) (fun _ i _=>len - (intOf i).toNat)
 case atStart=>exact ⟨0,Nat.zero_le _,rfl,Acc.nil _ _ _ _ _ _,Kept.refl _ _⟩
 case round =>
  obtain ⟨k,hk,rfl,hacc,hwr⟩:=hrel;obtain ⟨wo,rfl⟩ : ∃ wo : World,wo = wr:=⟨_,rfl⟩;obtain ⟨av,cv,rfl,hcv⟩:=hacc.form;obtain ⟨ms,hms⟩ : ∃ s,s = missF (xs.take k) ys:=⟨_,rfl⟩;obtain ⟨m,hm⟩ : ∃ l,l = ms.length:=⟨_,rfl⟩;(have hmk : m≤1000000:=by have h1:=missF_len (xs.take k) ys; have h2:=List.length_take_le k xs; rw [hm,hms]; omega);have HMS:=Lib.hid hms;have HM:=Lib.hid hm;rw [← hms] at hacc hcv ⊢;rw [← hm] at hacc hcv ⊢;clear hms hm;have hwrs:=hwr.size;by_cases hlt : k < len
  ·obtain ⟨b,off,q,oa,oc,ha,-,c0,c1,c2,c3,c4,c5,-,⟨hz1,-⟩,-,-,htk⟩:=(hs.keep RQst.ok hwr).atQst hlt;subst ha;have HT:=Lib.hid (missF_succ (l:=ys) htk);have hwa:=hwr.then_alloc (.cells #[.string q.key,.int .i64 q.kind,.int .i64 q.most,.slice oa q.opts.length oc,.bool q.needed,.bool q.secret] 146);have hacc1:=hacc.keepAll RStr.ok (Kept.alloc (fun _=>True) wo (.cells #[.string q.key,.int .i64 q.kind,.int .i64 q.most,.slice oa q.opts.length oc,.bool q.needed,.bool q.secret] 146));have hblk:=heap_at wo (.cells #[.string q.key,.int .i64 q.kind,.int .i64 q.most,.slice oa q.opts.length oc,.bool q.needed,.bool q.secret] 146) _ rfl;have e0:=cell_at (i:=0) hblk rfl;have e4:=cell_at (i:=4) hblk rfl;clear hacc hwr htk
   cases hnd : q.needed with
   | false =>
    have HE:=Lib.hid (show missF (xs.take (k+1)) ys = ms by rw [HT.out,missQ,hnd]; simp [HMS.out]);rw [hnd] at hacc1 hwa e0 e4 c4;clear hblk HT HMS;(go_wp2_with fail);go_roundw
    case rel=>exact ⟨k+1,by omega,by go_num,by rw [HE.out]; exact hacc1,hwa⟩
    case measure=>simp [intOf]; omega
   | true =>
    have HHQ:=Lib.hid (HH.out _ hwa q.key);rw [hnd] at hacc1 hwa e0 e4 c4 hblk HHQ
    cases hany : ys.any (isA q.key) with
    | true =>
     have HE:=Lib.hid (show missF (xs.take (k+1)) ys = ms by rw [HT.out,missQ,hnd,hany]; simp [HMS.out]);clear hblk HT HMS;(go_wp2_with fail);refine HHQ.out.mono ?_;rintro e w2 ⟨rfl,hw2⟩;rw [hany];have hacc2:=hacc1.keepAll RStr.ok hw2;clear hacc1 HHQ;(go_wp2_with fail);go_roundw
     case rel=>exact ⟨k+1,by omega,by go_num,by rw [HE.out]; exact hacc2,hwa.trans hw2⟩
     case measure=>simp [intOf]; omega
    | false =>
     have HE:=Lib.hid (show missF (xs.take (k+1)) ys = ms ++ [q.key] by rw [HT.out,missQ,hnd,hany]; simp [HMS.out]);clear hblk HT HMS;(go_wp2_with fail);refine HHQ.out.mono ?_;rintro e w2 ⟨rfl,hw2⟩;rw [hany];have hacc2:=hacc1.keepAll RStr.ok hw2;have e0':=hw2.cell e0 trivial;have hwb:=hwa.trans hw2;have hwbs:=hwb.size;clear hacc1 HHQ hwa hw2;(go_wp2_with (at_builtin; refine wp_append1 RStr.ok _ rfl _ _ 29 rfl w.heap.size 9 (.string ⟨#[]⟩) 1 16 Tryz.underlying29 (by kernel_rfl) rfl (by decide) (fun _=>False) _ ms rfl (hacc2.keepAll RStr.ok (Kept.alloc _ _ _)) ⟨_,0,none⟩ 1 [.string q.key] rfl rfl (World.news_of_block (cs:=#[.string q.key]) (heap_alloc_new w2 _)) (by simp [Value.oneCell']) q.key ⟨rfl,hz1⟩ (by have:=HM.out; omega) (by decide) (by simp; omega) ?_));intro p' c' w9 hacc9 hg9 _;have hk9 : All w w9:=(hwb.then_alloc _).grown hg9 (fun j hj=>Or.inl (hacc2.lt j hj).1);clear hg9 hacc2;(go_wp2_with fail);go_roundw
     case rel=>exact ⟨k+1,by omega,by go_num,by rw [HE.out]; exact hacc9,hk9⟩
     case measure=>simp [intOf]; omega
  ·(have hd : decide ((k : Int) < (len : Int)) = false:=by simp; omega);have hxe : xs.take k = xs:=List.take_of_length_le (by have:=Hlen.out; omega);have HF:=Lib.hid (show missF xs ys = ms by rw [HMS.out,hxe]);clear hxe;(go_wp2_with fail);go_ret;exact ⟨_,rfl,by rw [HF.out]; exact hacc,hwr⟩

end Go.Proofs.YtjbaijgdkkccbaaGreatDoor

/- Missing; the answer to a question; the questions to which answers differ. -/
namespace Go.Proofs.YtjbaijgdkkccbaaGreatDoor
open Go.RowKit

section
variable {a b : List Ans4} {q : Qst}
end



end Go.Proofs.YtjbaijgdkkccbaaGreatDoor
