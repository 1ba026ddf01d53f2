/- Meetings: who leaves for a paper, orders of papers, moves and steps. No program in sight. -/
import Derived.Test.YtjbaijgdkkccbaaGreatDoorBa
import Derived.Test.YtjbaijgdkkccbaaGreatDoorKc
import Derived.Lib.ValidU
import Derived.Test.YtjbaijgdkkccbaaGreatDoorZc
import Derived.Test.YtjbaijgdkkccbaaGreatDoorSi
import Derived.Test.YtjbaijgdkkccbaaGreatDoorSo
namespace Go.Proofs.YtjbaijgdkkccbaaGreatDoor
open Go.RowKit

structure Step3 where
 paper : ByteArray
 leave : List ByteArray
 enter : List ByteArray
noncomputable def orderG (seen : List ByteArray) : List ByteArray→Int
 | []=>0
 | p :: l=>if isKeyB p = false then 5 else if memB p seen = true then 6 else orderG (seen ++ [p]) l
theorem orderG_cons (seen : List ByteArray) (p : ByteArray) (l : List ByteArray) : orderG seen (p :: l) = if isKeyB p = false then 5 else if memB p seen = true then 6 else orderG (seen ++ [p]) l:=rfl
def OrderAt (ss : List ByteArray) (k : Nat) : Prop:=orderG [] ss = orderG (ss.take k) (ss.drop k)
section
variable {ss : List ByteArray} {k : Nat} {y : ByteArray}
theorem OrderAt.zero (ss : List ByteArray) : OrderAt ss 0:=by simp [OrderAt]
theorem OrderAt.name (h : OrderAt ss k) (hy : ss[k]? = some y) (h1 : isKeyB y = false) : orderG [] ss = 5:=by
 rw [h,drop_at hy,orderG_cons,if_pos h1]
theorem OrderAt.twice (h : OrderAt ss k) (hy : ss[k]? = some y) (h1 : isKeyB y = true) (h2 : memB y (ss.take k) = true) : orderG [] ss = 6:=by
 rw [h,drop_at hy,orderG_cons,if_neg (by simp [h1]),if_pos h2]
theorem OrderAt.next (h : OrderAt ss k) (hy : ss[k]? = some y) (h1 : isKeyB y = true) (h2 : memB y (ss.take k) = false) : OrderAt ss (k+1):=by
 (have e : ss.take (k+1) = ss.take k ++ [y]:=by rw [List.take_add_one,hy]; rfl);unfold OrderAt at *;rw [h,drop_at hy,orderG_cons,if_neg (by simp [h1]),if_neg (by simp [h2]),e]
theorem OrderAt.ok (h : OrderAt ss k) (hk : ss.length≤k) : orderG [] ss = 0:=by
 rw [h,List.drop_of_length_le hk]; rfl
end
end Go.Proofs.YtjbaijgdkkccbaaGreatDoor

/- Posts: how they lie in memory; what CheckPosts finds. No program in sight. -/
namespace Go.Proofs.YtjbaijgdkkccbaaGreatDoor
open Go.RowKit

def textOk (s : ByteArray) (k : Nat) : Prop:=∀ (i : Nat) (h : i < s.size),i < k→¬ (((s[i].toNat : Int) < 32∧(s[i].toNat : Int)≠10)∨(s[i].toNat : Int) = 127)
theorem textOk_succ {s : ByteArray} {k : Nat} (h : textOk s k) (hk : k < s.size) (hb : ¬ (((s[k].toNat : Int) < 32∧(s[k].toNat : Int)≠10)∨(s[k].toNat : Int) = 127)) : textOk s (k+1):=by
 intro i hi hik;by_cases e : i = k
 ·subst e; exact hb
 ·exact h i hi (by omega)
open Classical in
noncomputable def isTextB (s : ByteArray) : Bool:=decide (textOk s s.size) && Lib.validD s.data.toList && (decide (s.size = 0) || decide (s.data.toList.getLast? = some 10))

structure Post6 where
 no : Int
 tm : Int
 paper : ByteArray
 person : ByteArray
 ans : Int
 words : ByteArray
def RPost : Rel Post6:=fun _ _ vs x=>vs = [.int .i64 x.no,.int .i64 x.tm,.string x.paper,.string x.person,.int .i64 x.ans,.string x.words]∧x.paper.size≤1000000∧x.person.size≤1000000∧x.words.size≤1000000
theorem RPost.ok : RPost.Ok:=⟨fun _ h=>h,fun _ h=>h,fun h=>h⟩
def earlierP (p : Option Post6) (t : Post6) : Bool:=match p with | none=>false | some q=>decide (t.tm < q.tm)
def astray (pre : List Post6) (p : Post6) : Bool :=
 if p.ans = 0 then false else if p.ans < 1∨(pre.length : Int) < p.ans then true else match pre[p.ans.toNat - 1]? with | none=>true | some q=>decide (q.paper≠p.paper)
noncomputable def postF (b : Board4) (pre : List Post6) (p : Post6) : Int :=
 if p.no≠(pre.length : Int)+1 then 1 else if p.tm < 0∨5761440≤p.tm then 1 else if earlierP pre.getLast? p = true then 7 else if isKeyB p.paper = false then 5 else if isKeyB p.person = false then 5 else
 if mayB b p.paper p.person p.tm = false then 16 else if astray pre p = true then 8 else if p.words.size = 0 then 3 else if isTextB p.words = false then 3 else if 4000 < p.words.size then 2 else 0
noncomputable def postsG (b : Board4) (pre : List Post6) : List Post6→Int
 | []=>0
 | x :: l=>if postF b pre x≠0 then postF b pre x else postsG b (pre ++ [x]) l
theorem postsG_cons (b : Board4) (p : List Post6) (x : Post6) (l : List Post6) : postsG b p (x :: l) = if postF b p x≠0 then postF b p x else postsG b (p ++ [x]) l:=rfl
def PostsAt (b : Board4) (xs : List Post6) (k : Nat) : Prop:=postsG b [] xs = postsG b (xs.take k) (xs.drop k)
section
variable {b : Board4} {xs : List Post6} {k : Nat} {x : Post6}
theorem PostsAt.zero (b : Board4) (xs : List Post6) : PostsAt b xs 0:=by simp [PostsAt]
theorem PostsAt.bad {e : Int} (h : PostsAt b xs k) (hx : xs[k]? = some x) (hf : postF b (xs.take k) x = e) (he : e≠0) : postsG b [] xs = e:=by
 rw [h,drop_at hx,postsG_cons,hf,if_pos he]
theorem PostsAt.next (h : PostsAt b xs k) (hx : xs[k]? = some x) (hf : postF b (xs.take k) x = 0) : PostsAt b xs (k+1):=by
 (have e : xs.take (k+1) = xs.take k ++ [x]:=by rw [List.take_add_one,hx]; rfl);unfold PostsAt at *;rw [h,drop_at hx,postsG_cons,hf,if_neg (by simp),e]
theorem PostsAt.ok (h : PostsAt b xs k) (hk : xs.length≤k) : postsG b [] xs = 0:=by
 rw [h,List.drop_of_length_le hk]; rfl
end
end Go.Proofs.YtjbaijgdkkccbaaGreatDoor

/- IsText, of the program and of the reference. -/
namespace Go.Proofs.YtjbaijgdkkccbaaGreatDoor
open Go.RowKit

structure Tabs (w : World) : Prop where
 tabs : Lib.Utf8Tabs 4 5 w
theorem Tabs.kept {F : Nat→Prop} {w w' : World} (h : Tabs w) (k : Kept F w w') (h0 : F 4) (h1 : F 5) : Tabs w' :=
 ⟨⟨fun c hc=>k.cell (h.tabs.1 c hc) h0,fun i hi=>⟨k.cell (h.tabs.2 i hi).1 h1,k.cell (h.tabs.2 i hi).2 h1⟩⟩⟩
theorem Tabs.keep {w w' : World} (h : Tabs w) (k : All w w') : Tabs w':=h.kept k trivial trivial
theorem Tabs.but {w w' : World} {b : Nat} (h : Tabs w) (k : But b w w') (hb : 200 < b) : Tabs w':=h.kept k (by omega) (by omega)

theorem isTextB_bad {s : ByteArray} (h : ¬ textOk s s.size) : isTextB s = false:=by simp [isTextB,h]
theorem isTextB_ok {s : ByteArray} (h : textOk s s.size) : isTextB s = (Lib.validD s.data.toList && (decide (s.size = 0) || decide (s.data.toList.getLast? = some 10))):=by simp [isTextB,h]
theorem last_get {s : ByteArray} (h : 0 < s.size) : s.data.toList.getLast? = some (s[s.size - 1]'(by omega)):=by
 rw [List.getLast?_eq_getElem?];(have hl : s.data.toList.length = s.size:=by rw [Array.length_toList]; rfl);rw [hl,List.getElem?_eq_getElem (by omega)];rfl
theorem suffix_iff {s : ByteArray} (_h : 0 < s.size) : Lib.hasSuffix s.data.toList [10] = decide (s.data.toList.getLast? = some 10):=by
 unfold Lib.hasSuffix;rw [Bool.eq_iff_iff,decide_eq_true_iff,List.isSuffixOf_iff_suffix];constructor
 ·rintro ⟨t,ht⟩;rw [← ht]; simp
 ·intro hl;obtain ⟨t,ht⟩:=List.getLast?_eq_some_iff.1 hl;exact ⟨t,ht.symm⟩

set_option maxHeartbeats 1600000 in
theorem isText_any (s : ByteArray) (w : World) (hs : s.size≤1000000) (hg : Tabs w) :
  Calls Tryz.prog 345 #[.string s] w fun e w'=>e = .returned (.bool (isTextB s))∧All w w':=by
 have HV:=Lib.hid (Tryz.utf8_ValidString s w (by omega) hg.tabs);have HH:=Lib.hid (fun wx=>Tryz.strings_HasSuffix s ⟨#[10]⟩ wx (by omega));clear hg;(go_enter Tryz.func345,Tryz.ntmps345);go_wp2
 go_loop [3] (fun i=>∃ k : Nat,k≤s.size∧i = .int .i64 k∧textOk s k) (fun i=>s.size - (intOf i).toNat)
 case atStart=>exact ⟨0,Nat.zero_le _,rfl,fun i _ h=>absurd h (by omega)⟩
 case round =>
  obtain ⟨k,hk,rfl,hok⟩:=hrel;by_cases hlt : k < s.size
  ·by_cases h3 : (s[k].toNat : Int) = 127
   ·have hf:=Lib.hid (isTextB_bad (s:=s) (fun h=>h k hlt hlt (Or.inr h3)));(have d3 : ((s[k].toNat : Int) == 127) = true:=by simpa using h3);(have d1 : decide ((s[k].toNat : Int) < 32) = false:=by simp [h3]);clear h3;(go_wp2_with fail);go_ret;exact ⟨by rw [hf.out]; rfl,Kept.refl _ _⟩
   ·(have d3 : ((s[k].toNat : Int) == 127) = false:=by simpa using h3);by_cases h1 : (s[k].toNat : Int) < 32
    ·(have d1 : decide ((s[k].toNat : Int) < 32) = true:=by simpa using h1);by_cases h2 : (s[k].toNat : Int) = 10
     ·(have d2 : ((s[k].toNat : Int) != 10) = false:=by simpa using h2);have hnx:=Lib.hid (textOk_succ hok hlt (by omega));clear h2 h3;go_wp2_with fail
      go_round
      case rel=>exact ⟨k+1,by omega,by go_num,hnx.out⟩
      case measure=>simp [intOf]; omega
     ·(have d2 : ((s[k].toNat : Int) != 10) = true:=by simpa using h2);have hf:=Lib.hid (isTextB_bad (s:=s) (fun h=>h k hlt hlt (Or.inl ⟨h1,h2⟩)));clear h2 h3;(go_wp2_with fail);go_ret;exact ⟨by rw [hf.out]; rfl,Kept.refl _ _⟩
    ·(have d1 : decide ((s[k].toNat : Int) < 32) = false:=by simpa using h1);have hnx:=Lib.hid (textOk_succ hok hlt (by omega));clear h3;go_wp2_with fail
     go_round
     case rel=>exact ⟨k+1,by omega,by go_num,hnx.out⟩
     case measure=>simp [intOf]; omega
  ·(have hd : decide ((k : Int) < (s.size : Int)) = false:=by simp; omega);(have hke : k = s.size:=by omega);subst hke;have Hp:=Lib.hid (isTextB_ok hok);clear hok
   cases hv : Lib.validD s.data.toList with
   | false =>
    have Hv:=Lib.hid hv;clear hv;(go_wp2_with fail);refine HV.out.mono ?_;rintro e w1 ⟨rfl,hw1⟩;rw [Hv.out];(go_wp2_with fail);go_ret;exact ⟨by rw [Hp.out,Hv.out]; rfl,Kept.of_below hw1⟩
   | true =>
    have Hv:=Lib.hid hv;clear hv;by_cases h0 : s.size = 0
    ·have he : s.toList = []:=toList_nil h0;have Hf:=Lib.hid (show isTextB s = true by rw [Hp.out,Hv.out]; simp [h0]);clear h0;(go_wp2_with fail);refine HV.out.mono ?_;rintro e w1 ⟨rfl,hw1⟩;rw [Hv.out];(go_wp2_with fail);go_ret;exact ⟨by rw [Hf.out]; rfl,Kept.of_below hw1⟩
    ·have he : s.toList≠[]:=toList_ne h0;(have hd : s.toList.isEmpty = false:=by simpa using he);have Hf:=Lib.hid (show isTextB s = Lib.hasSuffix s.data.toList [10] by rw [Hp.out,Hv.out,suffix_iff (by omega)]; simp [h0]);clear h0;(go_wp2_with fail);refine HV.out.mono ?_;rintro e w1 ⟨rfl,hw1⟩;rw [Hv.out];(go_wp2_with fail);refine (HH.out _).mono ?_;rintro e w2 ⟨rfl,hh⟩;subst hh;(go_wp2_with fail);go_ret;exact ⟨by rw [Hf.out]; rfl,Kept.of_below hw1⟩

set_option maxHeartbeats 1600000 in
theorem isTextR_any (s : ByteArray) (w : World) (hs : s.size≤1000000) (hg : Tabs w) :
  Calls Tryz.prog 315 #[.string s] w fun e w'=>e = .returned (.bool (isTextB s))∧All w w':=by
 have HV:=Lib.hid (Tryz.utf8_ValidString s w (by omega) hg.tabs);clear hg;(go_enter Tryz.func315,Tryz.ntmps315);go_wp2
 go_loop [3,6] (fun _ i=>∃ k : Nat,k≤s.size∧i = .int .i64 k∧textOk s k) (fun _ i=>s.size - (intOf i).toNat)
 case atStart=>exact ⟨0,Nat.zero_le _,rfl,fun i _ h=>absurd h (by omega)⟩
 case round =>
  obtain ⟨k,hk,rfl,hok⟩:=hrel;by_cases hlt : k < s.size
  ·by_cases h3 : (s[k].toNat : Int) = 127
   ·have hf:=Lib.hid (isTextB_bad (s:=s) (fun h=>h k hlt hlt (Or.inr h3)));(have d3 : ((s[k].toNat : Int) == 127) = true:=by simpa using h3);(have d1 : decide ((s[k].toNat : Int) < 32) = false:=by simp [h3]);clear h3;(go_wp2_with fail);go_ret;exact ⟨by rw [hf.out]; rfl,Kept.refl _ _⟩
   ·(have d3 : ((s[k].toNat : Int) == 127) = false:=by simpa using h3);by_cases h1 : (s[k].toNat : Int) < 32
    ·(have d1 : decide ((s[k].toNat : Int) < 32) = true:=by simpa using h1);by_cases h2 : (s[k].toNat : Int) = 10
     ·(have d2 : ((s[k].toNat : Int) != 10) = false:=by simpa using h2);have hnx:=Lib.hid (textOk_succ hok hlt (by omega));clear h2 h3;go_wp2_with fail
      go_round
      case rel=>exact ⟨k+1,by omega,by go_num,hnx.out⟩
      case measure=>simp [intOf]; omega
     ·(have d2 : ((s[k].toNat : Int) != 10) = true:=by simpa using h2);have hf:=Lib.hid (isTextB_bad (s:=s) (fun h=>h k hlt hlt (Or.inl ⟨h1,h2⟩)));clear h2 h3;(go_wp2_with fail);go_ret;exact ⟨by rw [hf.out]; rfl,Kept.refl _ _⟩
    ·(have d1 : decide ((s[k].toNat : Int) < 32) = false:=by simpa using h1);have hnx:=Lib.hid (textOk_succ hok hlt (by omega));clear h3;go_wp2_with fail
     go_round
     case rel=>exact ⟨k+1,by omega,by go_num,hnx.out⟩
     case measure=>simp [intOf]; omega
  ·(have hd : decide ((k : Int) < (s.size : Int)) = false:=by simp; omega);(have hke : k = s.size:=by omega);subst hke;have Hp:=Lib.hid (isTextB_ok hok);clear hok
   cases hv : Lib.validD s.data.toList with
   | false =>
    have Hv:=Lib.hid hv;clear hv;(go_wp2_with fail);refine HV.out.mono ?_;rintro e w1 ⟨rfl,hw1⟩;rw [Hv.out];(go_wp2_with fail);go_ret;exact ⟨by rw [Hp.out,Hv.out]; rfl,Kept.of_below hw1⟩
   | true =>
    have Hv:=Lib.hid hv;clear hv;by_cases h0 : s.size = 0
    ·have he : s.toList = []:=toList_nil h0;have Hf:=Lib.hid (show isTextB s = true by rw [Hp.out,Hv.out]; simp [h0]);clear h0;(go_wp2_with fail);refine HV.out.mono ?_;rintro e w1 ⟨rfl,hw1⟩;rw [Hv.out];(go_wp2_with fail);go_ret;exact ⟨by rw [Hf.out]; rfl,Kept.of_below hw1⟩
    ·have he : s.toList≠[]:=toList_ne h0;(have hd : s.toList.isEmpty = false:=by simpa using he);(have hl1 : s.size - 1 < s.size:=by omega);have Hf:=Lib.hid (show isTextB s = decide ((s[s.size - 1].toNat : Int) = 10) by
      rw [Hp.out,Hv.out,last_get (by omega)];simp only [h0,decide_false,Bool.false_or,Bool.true_and,Option.some.injEq];rw [Bool.eq_iff_iff,decide_eq_true_iff,decide_eq_true_iff];constructor
      ·intro h; rw [h]; rfl
      ·intro h;(have h8 : s[s.size - 1].toNat = 10:=by omega);exact UInt8.toNat_inj.1 h8)
     clear h0;by_cases h8 : (s[s.size - 1].toNat : Int) = 10
     ·(have d8 : ((s[s.size - 1].toNat : Int) == 10) = true:=by simpa using h8);have Hf2:=Lib.hid (Hf.out.trans (decide_eq_true h8));clear h8 Hf;(go_wp2_with fail);refine HV.out.mono ?_;rintro e w1 ⟨rfl,hw1⟩;rw [Hv.out];(go_wp2_with fail);go_ret;exact ⟨by rw [Hf2.out]; rfl,Kept.of_below hw1⟩
     ·(have d8 : ((s[s.size - 1].toNat : Int) == 10) = false:=by simpa using h8);have Hf2:=Lib.hid (Hf.out.trans (decide_eq_false h8));clear h8 Hf;(go_wp2_with fail);refine HV.out.mono ?_;rintro e w1 ⟨rfl,hw1⟩;rw [Hv.out];(go_wp2_with fail);go_ret;exact ⟨by rw [Hf2.out]; rfl,Kept.of_below hw1⟩
end Go.Proofs.YtjbaijgdkkccbaaGreatDoor
