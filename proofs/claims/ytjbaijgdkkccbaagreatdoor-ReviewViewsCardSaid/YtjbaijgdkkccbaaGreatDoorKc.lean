/- IsPlain and Plain answer plainB; isLine and named answer lineB. -/
import Derived.Test.YtjbaijgdkkccbaaGreatDoorKb
import Derived.Test.YtjbaijgdkkccbaaGreatDoorSi
namespace Go.Proofs.YtjbaijgdkkccbaaGreatDoor
open Go.RowKit

structure Glob (w : World) : Prop where
 tabs : Lib.Utf8Tabs 4 5 w
 most : ∃ m : Int,w.cell? ⟨0,0,none⟩ = some (.int .i64 m)
theorem Glob.kept {F : Nat→Prop} {w w' : World} (h : Glob w) (k : Kept F w w') (h0 : F 4) (h1 : F 5) (h2 : F 0) : Glob w':=by
 refine ⟨⟨fun c hc=>k.cell (h.tabs.1 c hc) h0,fun i hi=>⟨k.cell (h.tabs.2 i hi).1 h1,k.cell (h.tabs.2 i hi).2 h1⟩⟩,?_⟩;obtain ⟨m,hm⟩:=h.most;exact ⟨m,k.cell hm h2⟩
theorem Glob.keep {w w' : World} (h : Glob w) (k : All w w') : Glob w':=h.kept k trivial trivial trivial
theorem Glob.but {w w' : World} {b : Nat} (h : Glob w) (k : But b w w') (hb : 7 < b) : Glob w':=h.kept k (by omega) (by omega) (by omega)

def blank1 : ByteArray:=⟨#[32]⟩
def blank2 : ByteArray:=⟨#[32,32]⟩
def bytesOk (s : ByteArray) (k : Nat) : Prop:=∀ (i : Nat) (h : i < s.size),i < k→¬ ((s[i].toNat : Int) < 32∨(s[i].toNat : Int) = 127)
def trimmed (s : ByteArray) : Prop:=Lib.trimS s.data.toList blank1.data.toList = s.data.toList
open Classical in
noncomputable def plainB (s : ByteArray) : Bool:=decide (bytesOk s s.size) && Lib.validD s.data.toList && decide (trimmed s) && !Lib.contains s.data.toList blank2.data.toList
theorem plainB_bad {s : ByteArray} (h : ¬ bytesOk s s.size) : plainB s = false:=by simp [plainB,h]
theorem plainB_ok {s : ByteArray} (h : bytesOk s s.size) : plainB s = (Lib.validD s.data.toList && (open Classical in decide (trimmed s)) && !Lib.contains s.data.toList blank2.data.toList):=by simp [plainB,h]
theorem bytesOk_succ {s : ByteArray} {k : Nat} (h : bytesOk s k) (hk : k < s.size) (hb : ¬ ((s[k].toNat : Int) < 32∨(s[k].toNat : Int) = 127)) : bytesOk s (k+1):=by
 intro i hi hik;by_cases e : i = k
 ·subst e; exact hb
 ·exact h i hi (by omega)
theorem string_back (s : ByteArray) : (⟨s.data.toList.toArray⟩ : ByteArray) = s:=by simp

set_option maxHeartbeats 1600000 in
theorem isPlain_any (s : ByteArray) (w : World) (hs : s.size≤1000000) (hg : Glob w) :
  Calls Tryz.prog 265 #[.string s] w fun e w'=>e = .returned (.bool (plainB s))∧All w w':=by
 have HV:=Lib.hid (Tryz.utf8_ValidString s w (by omega) hg.tabs);have HT:=Lib.hid (fun wx=>Tryz.strings_Trim_ascii s blank1 wx (by omega) (by decide) (ascii_of_all (by decide)));have HG:=Lib.hid hg;clear hg;(go_enter Tryz.func265,Tryz.ntmps265);go_wp2
 go_loop [3] (fun i=>∃ k : Nat,k≤s.size∧i = .int .i64 k∧bytesOk s k) (fun i=>s.size - (intOf i).toNat)
 case atStart=>exact ⟨0,Nat.zero_le _,rfl,fun i _ h=>absurd h (by omega)⟩
 case round =>
  obtain ⟨k,hk,rfl,hok⟩:=hrel;by_cases hlt : k < s.size
  ·by_cases h1 : (s[k].toNat : Int) < 32
   ·have hf:=Lib.hid (plainB_bad (s:=s) (fun h=>h k hlt hlt (Or.inl h1)));(have d1 : decide ((s[k].toNat : Int) < 32) = true:=by simpa using h1);(go_wp2_with fail);go_ret;exact ⟨by rw [hf.out]; rfl,Kept.refl _ _⟩
   ·(have d1 : decide ((s[k].toNat : Int) < 32) = false:=by simpa using h1);by_cases h2 : (s[k].toNat : Int) = 127
    ·have hf:=Lib.hid (plainB_bad (s:=s) (fun h=>h k hlt hlt (Or.inr h2)));(have d2 : ((s[k].toNat : Int) == 127) = true:=by simpa using h2);clear h2;(go_wp2_with fail);go_ret;exact ⟨by rw [hf.out]; rfl,Kept.refl _ _⟩
    ·(have d2 : ((s[k].toNat : Int) == 127) = false:=by simpa using h2);have hnx:=Lib.hid (bytesOk_succ hok hlt (by omega));clear h2;go_wp2_with fail
     go_round
     case rel=>exact ⟨k+1,by omega,by go_num,hnx.out⟩
     case measure=>simp [intOf]; omega
  ·(have hd : decide ((k : Int) < (s.size : Int)) = false:=by simp; omega);(have hke : k = s.size:=by omega);subst hke;have Hp:=Lib.hid (plainB_ok hok);clear hok
   cases hv : Lib.validD s.data.toList with
   | false =>
    have Hv:=Lib.hid hv;clear hv;(go_wp2_with fail);refine HV.out.mono ?_;rintro e w1 ⟨rfl,hw1⟩;rw [Hv.out];(go_wp2_with fail);go_ret;exact ⟨by rw [Hp.out,Hv.out]; rfl,Kept.of_below hw1⟩
   | true =>
    have Hv:=Lib.hid hv;clear hv;by_cases ht : trimmed s
    ·cases hc : Lib.contains s.data.toList blank2.data.toList with
     | false =>
      have Hc:=Lib.hid hc;clear hc;(go_wp2_with fail);refine HV.out.mono ?_;rintro e w1 ⟨rfl,hw1⟩;rw [Hv.out];(go_wp2_with fail);refine (HT.out _).mono ?_;rintro e w2 ⟨rfl,hw2⟩;have hw12:=(Kept.of_below hw1).trans (Kept.of_below hw2);have Ht:=Lib.hid ht;have ht2 : Lib.trimS s.data.toList blank1.data.toList = s.data.toList:=ht;rw [ht2,string_back];clear ht ht2;(have e1 : (s.toList == s.toList) = true:=by simp);obtain ⟨m,hm⟩:=(HG.out.keep hw12).most;(go_wp2_with fail);refine (Tryz.strings_Contains s blank2 m _ (by omega) hm).mono ?_;rintro e w3 ⟨rfl,hw3⟩;subst hw3;rw [Hc.out];(go_wp2_with fail);go_ret;exact ⟨by rw [Hp.out,Hv.out,Hc.out]; simp [Ht.out],hw12⟩
     | true =>
      have Hc:=Lib.hid hc;clear hc;(go_wp2_with fail);refine HV.out.mono ?_;rintro e w1 ⟨rfl,hw1⟩;rw [Hv.out];(go_wp2_with fail);refine (HT.out _).mono ?_;rintro e w2 ⟨rfl,hw2⟩;have hw12:=(Kept.of_below hw1).trans (Kept.of_below hw2);have ht2 : Lib.trimS s.data.toList blank1.data.toList = s.data.toList:=ht;rw [ht2,string_back];clear ht ht2;(have e1 : (s.toList == s.toList) = true:=by simp);obtain ⟨m,hm⟩:=(HG.out.keep hw12).most;(go_wp2_with fail);refine (Tryz.strings_Contains s blank2 m _ (by omega) hm).mono ?_;rintro e w3 ⟨rfl,hw3⟩;subst hw3;rw [Hc.out];(go_wp2_with fail);go_ret;exact ⟨by rw [Hp.out,Hc.out]; simp,hw12⟩
    ·have e1 : ((⟨(Lib.trimS s.data.toList blank1.data.toList).toArray⟩ : ByteArray).toList == s.toList) = false:=by
      rw [beq_eq_false_iff_ne,Go.ByteArray.toList_eq,Go.ByteArray.toList_eq];exact fun e=>ht (by unfold trimmed; simpa using e)
     have Ht:=Lib.hid ht;clear ht;generalize (⟨(Lib.trimS s.data.toList blank1.data.toList).toArray⟩ : ByteArray) = t at *;(go_wp2_with fail);refine HV.out.mono ?_;rintro e w1 ⟨rfl,hw1⟩;rw [Hv.out];(go_wp2_with fail);refine (HT.out _).mono ?_;rintro e w2 ⟨rfl,hw2⟩;(go_wp2_with fail);go_ret;exact ⟨by rw [Hp.out]; simp [Ht.out],(Kept.of_below hw1).trans (Kept.of_below hw2)⟩

set_option maxHeartbeats 1600000 in
theorem plain_any (s : ByteArray) (w : World) (hs : s.size≤1000000) (hg : Glob w) :
  Calls Tryz.prog 331 #[.string s] w fun e w'=>e = .returned (.bool (plainB s))∧All w w':=by
 have HV:=Lib.hid (Tryz.utf8_ValidString s w (by omega) hg.tabs);have HT:=Lib.hid (fun wx=>Tryz.strings_Trim_ascii s blank1 wx (by omega) (by decide) (ascii_of_all (by decide)));have HG:=Lib.hid hg;clear hg;(go_enter Tryz.func331,Tryz.ntmps331);go_wp2
 go_loop [3,6] (fun _ i=>∃ k : Nat,k≤s.size∧i = .int .i64 k∧bytesOk s k) (fun _ i=>s.size - (intOf i).toNat)
 case atStart=>exact ⟨0,Nat.zero_le _,rfl,fun i _ h=>absurd h (by omega)⟩
 case round =>
  obtain ⟨k,hk,rfl,hok⟩:=hrel;by_cases hlt : k < s.size
  ·by_cases h1 : (s[k].toNat : Int) < 32
   ·have hf:=Lib.hid (plainB_bad (s:=s) (fun h=>h k hlt hlt (Or.inl h1)));(have d1 : decide ((s[k].toNat : Int) < 32) = true:=by simpa using h1);(go_wp2_with fail);go_ret;exact ⟨by rw [hf.out]; rfl,Kept.refl _ _⟩
   ·(have d1 : decide ((s[k].toNat : Int) < 32) = false:=by simpa using h1);by_cases h2 : (s[k].toNat : Int) = 127
    ·have hf:=Lib.hid (plainB_bad (s:=s) (fun h=>h k hlt hlt (Or.inr h2)));(have d2 : ((s[k].toNat : Int) == 127) = true:=by simpa using h2);clear h2;(go_wp2_with fail);go_ret;exact ⟨by rw [hf.out]; rfl,Kept.refl _ _⟩
    ·(have d2 : ((s[k].toNat : Int) == 127) = false:=by simpa using h2);have hnx:=Lib.hid (bytesOk_succ hok hlt (by omega));clear h2;go_wp2_with fail
     go_round
     case rel=>exact ⟨k+1,by omega,by go_num,hnx.out⟩
     case measure=>simp [intOf]; omega
  ·(have hd : decide ((k : Int) < (s.size : Int)) = false:=by simp; omega);(have hke : k = s.size:=by omega);subst hke;have Hp:=Lib.hid (plainB_ok hok);clear hok
   cases hv : Lib.validD s.data.toList with
   | false =>
    have Hv:=Lib.hid hv;clear hv;(go_wp2_with fail);refine HV.out.mono ?_;rintro e w1 ⟨rfl,hw1⟩;rw [Hv.out];(go_wp2_with fail);go_ret;exact ⟨by rw [Hp.out,Hv.out]; rfl,Kept.of_below hw1⟩
   | true =>
    have Hv:=Lib.hid hv;clear hv;by_cases ht : trimmed s
    ·cases hc : Lib.contains s.data.toList blank2.data.toList with
     | false =>
      have Hc:=Lib.hid hc;clear hc;(go_wp2_with fail);refine HV.out.mono ?_;rintro e w1 ⟨rfl,hw1⟩;rw [Hv.out];(go_wp2_with fail);refine (HT.out _).mono ?_;rintro e w2 ⟨rfl,hw2⟩;have hw12:=(Kept.of_below hw1).trans (Kept.of_below hw2);have Ht:=Lib.hid ht;have ht2 : Lib.trimS s.data.toList blank1.data.toList = s.data.toList:=ht;rw [ht2,string_back];clear ht ht2;(have e1 : (s.toList == s.toList) = true:=by simp);obtain ⟨m,hm⟩:=(HG.out.keep hw12).most;(go_wp2_with fail);refine (Tryz.strings_Contains s blank2 m _ (by omega) hm).mono ?_;rintro e w3 ⟨rfl,hw3⟩;subst hw3;rw [Hc.out];(go_wp2_with fail);go_ret;exact ⟨by rw [Hp.out,Hv.out,Hc.out]; simp [Ht.out],hw12⟩
     | true =>
      have Hc:=Lib.hid hc;clear hc;(go_wp2_with fail);refine HV.out.mono ?_;rintro e w1 ⟨rfl,hw1⟩;rw [Hv.out];(go_wp2_with fail);refine (HT.out _).mono ?_;rintro e w2 ⟨rfl,hw2⟩;have hw12:=(Kept.of_below hw1).trans (Kept.of_below hw2);have ht2 : Lib.trimS s.data.toList blank1.data.toList = s.data.toList:=ht;rw [ht2,string_back];clear ht ht2;(have e1 : (s.toList == s.toList) = true:=by simp);obtain ⟨m,hm⟩:=(HG.out.keep hw12).most;(go_wp2_with fail);refine (Tryz.strings_Contains s blank2 m _ (by omega) hm).mono ?_;rintro e w3 ⟨rfl,hw3⟩;subst hw3;rw [Hc.out];(go_wp2_with fail);go_ret;exact ⟨by rw [Hp.out,Hc.out]; simp,hw12⟩
    ·have e1 : ((⟨(Lib.trimS s.data.toList blank1.data.toList).toArray⟩ : ByteArray).toList == s.toList) = false:=by
      rw [beq_eq_false_iff_ne,Go.ByteArray.toList_eq,Go.ByteArray.toList_eq];exact fun e=>ht (by unfold trimmed; simpa using e)
     have Ht:=Lib.hid ht;clear ht;generalize (⟨(Lib.trimS s.data.toList blank1.data.toList).toArray⟩ : ByteArray) = t at *;(go_wp2_with fail);refine HV.out.mono ?_;rintro e w1 ⟨rfl,hw1⟩;rw [Hv.out];(go_wp2_with fail);refine (HT.out _).mono ?_;rintro e w2 ⟨rfl,hw2⟩;(go_wp2_with fail);go_ret;exact ⟨by rw [Hp.out]; simp [Ht.out],(Kept.of_below hw1).trans (Kept.of_below hw2)⟩
end Go.Proofs.YtjbaijgdkkccbaaGreatDoor

/- isLine and named answer lineB. -/
namespace Go.Proofs.YtjbaijgdkkccbaaGreatDoor
open Go.RowKit

noncomputable def lineB (s : ByteArray) (most : Int) : Bool:=!(decide (s.size = 0)) && plainB s && decide ((s.size : Int)≤most)


theorem named_any (s : ByteArray) (most : Int) (w : World) (hs : s.size≤1000000) (hg : Glob w) :
  Calls Tryz.prog 268 #[.string s,.int .i64 most] w fun e w'=>e = .returned (.bool (lineB s most))∧All w w':=by
 have HP:=Lib.hid (plain_any s w hs hg);clear hg;by_cases h0 : s.size = 0
 ·have he : s.toList = []:=toList_nil h0;(have hd : s.toList.isEmpty = true:=by simp [he]);(have hl : lineB s most = false:=by unfold lineB; simp [h0]);rw [hl];clear hl h0;(go_enter Tryz.func268,Tryz.ntmps268);(go_wp2_with fail);go_ret;exact ⟨rfl,Kept.refl _ _⟩
 ·have he : s.toList≠[]:=toList_ne h0;have hd : s.toList.isEmpty = false:=by simpa using he
  cases hp : plainB s with
  | false =>
   (have hl : lineB s most = false:=by unfold lineB; simp [hp]);rw [hl];have Hp:=Lib.hid hp;clear hl hp h0;(go_enter Tryz.func268,Tryz.ntmps268);(go_wp2_with fail);refine HP.out.mono ?_;rintro e w1 ⟨rfl,hw1⟩;rw [Hp.out];(go_wp2_with fail);go_ret;exact ⟨rfl,hw1⟩
  | true =>
   by_cases hle : (s.size : Int)≤most
   ·(have hl : lineB s most = true:=by unfold lineB; simp [hp,h0,hle]);(have d1 : decide ((s.size : Int)≤most) = true:=by simpa using hle);rw [hl];have Hp:=Lib.hid hp;clear hl hp h0;(go_enter Tryz.func268,Tryz.ntmps268);(go_wp2_with fail);refine HP.out.mono ?_;rintro e w1 ⟨rfl,hw1⟩;rw [Hp.out];(go_wp2_with fail);go_ret;exact ⟨rfl,hw1⟩
   ·(have hl : lineB s most = false:=by unfold lineB; simp [hle]);(have d1 : decide ((s.size : Int)≤most) = false:=by simpa using hle);rw [hl];have Hp:=Lib.hid hp;clear hl hp h0;(go_enter Tryz.func268,Tryz.ntmps268);(go_wp2_with fail);refine HP.out.mono ?_;rintro e w1 ⟨rfl,hw1⟩;rw [Hp.out];(go_wp2_with fail);go_ret;exact ⟨rfl,hw1⟩
end Go.Proofs.YtjbaijgdkkccbaaGreatDoor

/- Index and Contains of strings. -/
namespace Go.Proofs.YtjbaijgdkkccbaaGreatDoor
open Go.RowKit

set_option maxHeartbeats 800000 in
theorem index_any {F : Nat→Prop} (a : Option Addr) (len cap : Nat) (ss : List ByteArray) (x : ByteArray) (w : World) (hs : Sl RStr 1 F w a len ss) (hl : len≤1000000) :
  Calls Tryz.prog 122 #[.slice a len cap,.string x] w fun e w'=>e = .returned (.int .i64 (idxFrom x 0 ss))∧w = w':=by
 have hlen:=hs.len;(go_enter Tryz.func122,Tryz.ntmps122);go_wp2
 go_loop [5,8] (fun _ i=>∃ k : Nat,k≤len∧i = .int .i64 k∧x ∉ ss.take k) (fun _ i=>len - (intOf i).toNat)
 case atStart=>exact ⟨0,Nat.zero_le _,rfl,by simp⟩
 case round =>
  obtain ⟨k,hk,rfl,hnot⟩:=hrel;by_cases hlt : k < len
  ·obtain ⟨b,off,y,ha,_,hck,-,-,hsplit,htake⟩:=hs.atStr hlt;(have hltake : (ss.take k).length = k:=by simp; omega);have Hsplit:=Lib.hid hsplit;have Htake:=Lib.hid htake;have Hl:=Lib.hid hltake;clear hsplit htake hltake hlen;subst ha;clear hs;by_cases hxy : x = y
   ·(have hfin : idxFrom x 0 ss = k:=by rw [Hsplit.out,idxFrom_append hnot,Hl.out,idxFrom,if_pos hxy.symm]; simp);have Hfin:=Lib.hid hfin;(have he : (x.toList == y.toList) = true:=by simp [hxy]);clear hfin hxy;(go_wp2);go_ret;exact ⟨ret_int' Hfin.out.symm,rfl⟩
   ·(have he : (x.toList == y.toList) = false:=by simp; exact fun e=>hxy (bytes_ext e));go_wp2
    go_round
    case rel=>exact ⟨k+1,by omega,by go_num,by rw [Htake.out]; simp; exact ⟨hnot,hxy⟩⟩
    case measure=>simp [intOf]; omega
  ·(have hd : decide ((k : Int) < (len : Int)) = false:=by simp; omega);have hfin : idxFrom x 0 ss = -1:=idxFrom_neg (by rw [List.take_of_length_le (by omega)] at hnot; exact hnot);have Hfin:=Lib.hid hfin;clear hfin;(go_wp2);go_ret;exact ⟨ret_int' Hfin.out.symm,rfl⟩

theorem contains_any {F : Nat→Prop} (a : Option Addr) (len cap : Nat) (ss : List ByteArray) (x : ByteArray) (w : World) (hs : Sl RStr 1 F w a len ss) (hl : len≤1000000) :
  Calls Tryz.prog 67 #[.slice a len cap,.string x] w fun e w'=>e = .returned (.bool (memB x ss))∧w = w':=by
 by_cases hx : x ∈ ss
 ·have h0:=idxFrom_nonneg (k:=0) hx;rw [memB_true hx];(go_enter Tryz.func67,Tryz.ntmps67);(go_wp2_with fail);refine (index_any _ _ _ ss x _ hs hl).mono ?_;rintro e w' ⟨rfl,rfl⟩;(go_wp2);go_ret;exact ⟨rfl,rfl⟩
 ·have h0:=idxFrom_neg (k:=0) hx;rw [memB_false hx];(go_enter Tryz.func67,Tryz.ntmps67);(go_wp2_with fail);refine (index_any _ _ _ ss x _ hs hl).mono ?_;rintro e w' ⟨rfl,rfl⟩;rw [h0];(go_wp2);go_ret;exact ⟨rfl,rfl⟩
end Go.Proofs.YtjbaijgdkkccbaaGreatDoor
