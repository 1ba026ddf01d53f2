/- Keys that must rise: RisingFault and rising. -/
import Derived.Test.YtjbaijgdkkccbaaGreatDoorRa
import Derived.Test.YtjbaijgdkkccbaaGreatDoorKb
import Derived.Test.YtjbaijgdkkccbaaGreatDoorSd
namespace Go.Proofs.YtjbaijgdkkccbaaGreatDoor
open Go.RowKit

noncomputable def riseF (p : Option ByteArray) : List ByteArray→Int
 | []=>0
 | s :: l=>if isKeyB s = false then 5 else if (match p with | none=>false | some q=>leB s q) = true then 7 else riseF (some s) l
theorem riseF_cons (p : Option ByteArray) (s : ByteArray) (l : List ByteArray) : riseF p (s :: l) = if isKeyB s = false then 5 else if (match p with | none=>false | some q=>leB s q) = true then 7 else riseF (some s) l:=rfl
def RiseAt (ss : List ByteArray) (k : Nat) : Prop:=riseF none ss = riseF (ss.take k).getLast? (ss.drop k)

theorem RiseAt.name {ss : List ByteArray} {k : Nat} {y : ByteArray} (h : RiseAt ss k) (hy : ss[k]? = some y) (hn : isKeyB y = false) : riseF none ss = 5:=by
 rw [h,drop_at hy,riseF_cons,if_pos hn]
theorem RiseAt.first {ss : List ByteArray} {y : ByteArray} (h : RiseAt ss 0) (hy : ss[0]? = some y) (hn : isKeyB y = true) : RiseAt ss 1:=by
 unfold RiseAt at *;rw [h,drop_at hy,last_take hy,riseF_cons,if_neg (by simp [hn])];simp
theorem RiseAt.order {ss : List ByteArray} {k : Nat} {x y : ByteArray} (h : RiseAt ss (k+1)) (hx : ss[k]? = some x) (hy : ss[k+1]? = some y) (hn : isKeyB y = true) (hl : leB y x = true) : riseF none ss = 7:=by
 rw [h,drop_at hy,last_take hx,riseF_cons,if_neg (by simp [hn])];exact if_pos hl
theorem RiseAt.next {ss : List ByteArray} {k : Nat} {x y : ByteArray} (h : RiseAt ss (k+1)) (hx : ss[k]? = some x) (hy : ss[k+1]? = some y) (hn : isKeyB y = true) (hl : leB y x = false) : RiseAt ss (k+1+1):=by
 unfold RiseAt at *;rw [h,drop_at hy,last_take hx,last_take hy,riseF_cons,if_neg (by simp [hn])];exact if_neg (by simp [hl])

set_option maxHeartbeats 800000 in
theorem risingFault_any {F : Nat→Prop} (a : Option Addr) (len cap : Nat) (ss : List ByteArray) (w : World) (hs : Sl RStr 1 F w a len ss) (hl : len≤1000000) :
  Calls Tryz.prog 197 #[.slice a len cap] w fun e w'=>e = .returned (.int .i64 (riseF none ss))∧w = w':=by
 have hlen:=hs.len;(go_enter Tryz.func197,Tryz.ntmps197);go_wp2
 go_loop [3,4,7] (fun _ _ i=>∃ k : Nat,k≤len∧i = .int .i64 k∧RiseAt ss k) (fun _ _ i=>len - (intOf i).toNat)
 case atStart=>exact ⟨0,Nat.zero_le _,rfl,by simp [RiseAt]⟩
 case round =>
  obtain ⟨k,hk,rfl,hat⟩:=hrel;by_cases hlt : k < len
  ·obtain ⟨b,off,y,ha,hF,hck,hyz,hy,-,-⟩:=hs.atStr hlt;subst ha;have hck0 : k = 0→w.cell? ⟨b,off,none⟩ = some (.string y):=fun e=>by rw [e,Nat.add_zero] at hck; exact hck
   cases hkey : isKeyB y with
   | false =>
    have hfin:=Lib.hid (hat.name hy hkey);clear hck0;(go_wp2_with fail);refine (isKey_any y _ (by omega)).mono ?_;rintro e w' ⟨rfl,rfl⟩;rw [hkey];(go_wp2_with fail);go_ret;exact ⟨ret_int' hfin.out.symm,rfl⟩
   | true =>
    cases k with
    | zero =>
     have hnx:=hat.first hy hkey;have hck1:=hck0 rfl;clear hck0;(go_wp2_with fail);refine (isKey_any y _ (by omega)).mono ?_;rintro e w' ⟨rfl,rfl⟩;rw [hkey];go_wp2_with fail
     go_round
     case rel=>exact ⟨1,by omega,rfl,hnx⟩
     case measure=>simp [intOf]; omega
    | succ k =>
     clear hck0;obtain ⟨b',off',x,ha',_,hcx,hxz,hx,-,-⟩:=hs.atStr (k:=k) (by omega)
     cases ha'
     cases hle : leB y x with
     | true =>
      have hfin:=Lib.hid (hat.order hx hy hkey hle);have hle' : (Op.bytesLess y.toList x.toList || y.toList == x.toList) = true:=hle;(go_wp2_with fail);refine (isKey_any y _ (by omega)).mono ?_;rintro e w' ⟨rfl,rfl⟩;rw [hkey];(go_wp2_with fail);go_ret;exact ⟨ret_int' hfin.out.symm,rfl⟩
     | false =>
      have hnx:=hat.next hx hy hkey hle;have hle' : (Op.bytesLess y.toList x.toList || y.toList == x.toList) = false:=hle;(go_wp2_with fail);refine (isKey_any y _ (by omega)).mono ?_;rintro e w' ⟨rfl,rfl⟩;rw [hkey];go_wp2_with fail
      go_round
      case rel=>exact ⟨k+1+1,by omega,by go_num,hnx⟩
      case measure=>simp [intOf]; omega
  ·(have hd : decide ((k : Int) < (len : Int)) = false:=by simp; omega);have hfin : riseF none ss = 0:=by
    rw [hat,List.drop_of_length_le (by omega)]; rfl
   have Hfin:=Lib.hid hfin;clear hfin;(go_wp2);go_ret;exact ⟨ret_int' Hfin.out.symm,rfl⟩

set_option maxHeartbeats 800000 in
theorem rising_any (a : Option Addr) (len cap : Nat) (ss : List ByteArray) (w : World) (hs : Sl RStr 1 (fun _=>True) w a len ss) (hl : len≤1000000) :
  Calls Tryz.prog 136 #[.slice a len cap,.func (.func 63) #[] #[],.int .i64 5] w fun e w'=>e = .returned (.int .i64 (riseF none ss))∧All w w':=by
 have hlen:=hs.len;(go_enter Tryz.func136,Tryz.ntmps136);(go_wp2);go_loopw [7,8,11] (fun _ _ i wr=>∃ k : Nat,k≤len∧i = .int .i64 k∧RiseAt ss k∧All w wr) (fun _ _ i _=>len - (intOf i).toNat)
 case atStart=>exact ⟨0,Nat.zero_le _,rfl,by simp [RiseAt],Kept.refl _ _⟩
 case round =>
  obtain ⟨k,hk,rfl,hat,hall⟩:=hrel;by_cases hlt : k < len
  ·have hsr:=hs.keep RStr.ok hall;obtain ⟨b,off,y,ha,hF,hck,hyz,hy,-,-⟩:=hsr.atStr hlt;subst ha;have hck0 : k = 0→wr.cell? ⟨b,off,none⟩ = some (.string y):=fun e=>by rw [e,Nat.add_zero] at hck; exact hck
   cases hkey : isKeyB y with
   | false =>
    have hfin:=Lib.hid (hat.name hy hkey);clear hck0;(go_wp2_with fail);refine (key_any y _ hyz).mono ?_;rintro e w' ⟨rfl,hw⟩;rw [hkey];(go_wp2_with fail);go_ret;exact ⟨ret_int' hfin.out.symm,hall.trans hw⟩
   | true =>
    cases k with
    | zero =>
     have hnx:=hat.first hy hkey;have hck1:=hck0 rfl;clear hck0;(go_wp2_with fail);refine (key_any y _ hyz).mono ?_;rintro e w' ⟨rfl,hw⟩;rw [hkey];(go_wp2_with fail);go_roundw
     case rel=>exact ⟨1,by omega,rfl,hnx,hall.trans hw⟩
     case measure=>simp [intOf]; omega
    | succ k =>
     clear hck0;obtain ⟨b',off',x,ha',_,hcx,hxz,hx,-,-⟩:=hsr.atStr (k:=k) (by omega)
     cases ha'
     cases hle : leB y x with
     | true =>
      have hfin:=Lib.hid (hat.order hx hy hkey hle);have hle' : (Op.bytesLess y.toList x.toList || y.toList == x.toList) = true:=hle;(go_wp2_with fail);refine (key_any y _ hyz).mono ?_;rintro e w' ⟨rfl,hw⟩;rw [hkey];have hcx':=hw.cell hcx trivial;(go_wp2_with fail);go_ret;exact ⟨ret_int' hfin.out.symm,hall.trans hw⟩
     | false =>
      have hnx:=hat.next hx hy hkey hle;have hle' : (Op.bytesLess y.toList x.toList || y.toList == x.toList) = false:=hle;(go_wp2_with fail);refine (key_any y _ hyz).mono ?_;rintro e w' ⟨rfl,hw⟩;rw [hkey];have hcx':=hw.cell hcx trivial;(go_wp2_with fail);go_roundw
      case rel=>exact ⟨k+1+1,by omega,by go_num,hnx,hall.trans hw⟩
      case measure=>simp [intOf]; omega
  ·(have hd : decide ((k : Int) < (len : Int)) = false:=by simp; omega);have hfin : riseF none ss = 0:=by
    rw [hat,List.drop_of_length_le (by omega)]; rfl
   have Hfin:=Lib.hid hfin;clear hfin;(go_wp2);go_ret;exact ⟨ret_int' Hfin.out.symm,hall⟩
end Go.Proofs.YtjbaijgdkkccbaaGreatDoor

/- Boards: how pairs and turns lie in memory; what CheckPairs, CheckBoard, Open and May compute. No program in sight. -/
namespace Go.Proofs.YtjbaijgdkkccbaaGreatDoor
open Go.RowKit

def ordP (p : Option Pair2) (m : Pair2) : Bool:=match p with | none=>false | some q=>decide (0≤cmpP q.paper q.person m.paper m.person)
noncomputable def pairF (p : Option Pair2) (m : Pair2) : Int:=if isKeyB m.paper = false then 5 else if isKeyB m.person = false then 5 else if ordP p m = true then 7 else 0
noncomputable def pairsG (p : Option Pair2) : List Pair2→Int
 | []=>0
 | x :: l=>if pairF p x≠0 then pairF p x else pairsG (some x) l
noncomputable def pairsF (l : List Pair2) : Int:=if 120000 < l.length then 2 else pairsG none l
theorem pairsG_cons (p : Option Pair2) (x : Pair2) (l : List Pair2) : pairsG p (x :: l) = if pairF p x≠0 then pairF p x else pairsG (some x) l:=rfl
def PairsAt (xs : List Pair2) (k : Nat) : Prop:=pairsG none xs = pairsG (xs.take k).getLast? (xs.drop k)
section
variable {xs : List Pair2} {k : Nat} {x : Pair2} {p : Option Pair2}
theorem PairsAt.zero (xs : List Pair2) : PairsAt xs 0:=by simp [PairsAt]
theorem PairsAt.bad {e : Int} (h : PairsAt xs k) (hx : xs[k]? = some x) (hf : pairF (xs.take k).getLast? x = e) (he : e≠0) : pairsG none xs = e:=by
 rw [h,drop_at hx,pairsG_cons,hf,if_pos he]
theorem PairsAt.next (h : PairsAt xs k) (hx : xs[k]? = some x) (hf : pairF (xs.take k).getLast? x = 0) : PairsAt xs (k+1):=by
 unfold PairsAt at *;rw [h,drop_at hx,pairsG_cons,hf,if_neg (by simp),last_take hx]
theorem PairsAt.ok (h : PairsAt xs k) (hk : xs.length≤k) : pairsG none xs = 0:=by
 rw [h,List.drop_of_length_le hk]; rfl
theorem pairF_name (h1 : isKeyB x.paper = false) : pairF p x = 5:=by rw [pairF,if_pos h1]
theorem pairF_name2 (h1 : isKeyB x.paper = true) (h2 : isKeyB x.person = false) : pairF p x = 5:=by rw [pairF,if_neg (by simp [h1]),if_pos h2]
theorem pairF_order (h1 : isKeyB x.paper = true) (h2 : isKeyB x.person = true) (h3 : ordP p x = true) : pairF p x = 7:=by rw [pairF,if_neg (by simp [h1]),if_neg (by simp [h2]),if_pos h3]
theorem pairF_ok (h1 : isKeyB x.paper = true) (h2 : isKeyB x.person = true) (h3 : ordP p x = false) : pairF p x = 0:=by rw [pairF,if_neg (by simp [h1]),if_neg (by simp [h2]),if_neg (by simp [h3])]
theorem pairF_ord (h : pairF p x = 0) : ordP p x = false:=by
 unfold pairF at h;split at h
 ·omega
 ·split at h
  ·omega
  ·split at h
   ·omega
   ·rename_i h1; simpa using h1
end
theorem pairsF_large {xs : List Pair2} (h : 120000 < xs.length) : pairsF xs = 2:=by rw [pairsF,if_pos h]
theorem pairsF_some {xs : List Pair2} (h : ¬ 120000 < xs.length) : pairsF xs = pairsG none xs:=by rw [pairsF,if_neg h]

def ltPP (x y : Pair2) : Prop:=cmpP x.paper x.person y.paper y.person < 0
theorem ltPP_trans {x y z : Pair2} (h1 : ltPP x y) (h2 : ltPP y z) : ltPP x z:=by
 (have e : ∀ a b : Pair2,ltPP a b ↔ ltOf cfP a b = true:=fun a b=>by unfold ltPP ltOf cfP; exact decide_eq_true_iff.symm);rw [e,ltP] at *;rcases h1 with h1 | ⟨h1,h1'⟩
 ·rcases h2 with h2 | ⟨h2,h2'⟩
  ·exact Or.inl (cmp_trans h1 h2)
  ·exact Or.inl (by rw [← h2]; exact h1)
 ·rcases h2 with h2 | ⟨h2,h2'⟩
  ·exact Or.inl (by rw [h1]; exact h2)
  ·exact Or.inr ⟨h1.trans h2,cmp_trans h1' h2'⟩
theorem pairsG_rises : ∀ {xs : List Pair2} {p : Option Pair2},pairsG p xs = 0→xs.Pairwise ltPP∧∀ q,p = some q→∀ x ∈ xs,ltPP q x
 | [],_,_=>⟨List.Pairwise.nil,by simp⟩
 | x :: l,p,h=>by
  rw [pairsG_cons] at h;by_cases hf : pairF p x = 0
  ·rw [if_neg (by simp [hf])] at h;obtain ⟨h1,h2⟩:=pairsG_rises h;have ho:=pairF_ord hf;have hq : ∀ q,p = some q→ltPP q x:=fun q e=>by
    subst e;simpa [ordP,ltPP] using ho
   refine ⟨List.pairwise_cons.2 ⟨fun y hy=>h2 x rfl y hy,h1⟩,fun q e y hy=>?_⟩;rcases List.mem_cons.1 hy with rfl | hy
   ·exact hq q e
   ·exact ltPP_trans (hq q e) (h2 x rfl y hy)
  ·rw [if_pos hf] at h;exact absurd h hf
theorem pairsF_rises {xs : List Pair2} (h : pairsF xs = 0) : xs.length≤120000∧xs.Pairwise ltPP:=by
 unfold pairsF at h;split at h
 ·omega
 ·exact ⟨by omega,(pairsG_rises h).1⟩
def inP (l : List Pair2) (a b : ByteArray) : Bool:=l.any fun q=>decide (q.paper = a∧q.person = b)

structure Turn3 where
 tm : Int
 paper : ByteArray
 op : Bool
def RTurn : Rel Turn3:=fun _ _ vs x=>vs = [.int .i64 x.tm,.string x.paper,.bool x.op]∧x.paper.size≤1000000
theorem RTurn.ok : RTurn.Ok:=⟨fun _ h=>h,fun _ h=>h,fun h=>h⟩
def lastOp (l : List Turn3) (p : ByteArray) : Bool:=l.foldl (fun b t=>if t.paper = p then t.op else b) false
def openAt (l : List Turn3) (p : ByteArray) (m : Int) : Bool:=l.foldl (fun b t=>if t.paper = p∧t.tm≤m then t.op else b) false
def earlier (p : Option Turn3) (t : Turn3) : Bool:=match p with | none=>false | some q=>decide (t.tm < q.tm)
noncomputable def turnF (pre : List Turn3) (t : Turn3) : Int:=if t.tm < 0∨5761440≤t.tm then 1 else if earlier pre.getLast? t = true then 7 else if isKeyB t.paper = false then 5 else if lastOp pre t.paper = t.op then 11 else 0
noncomputable def turnsG (pre : List Turn3) : List Turn3→Int
 | []=>0
 | x :: l=>if turnF pre x≠0 then turnF pre x else turnsG (pre ++ [x]) l
noncomputable def turnsF (l : List Turn3) : Int:=if 2000 < l.length then 2 else turnsG [] l
theorem turnsG_cons (p : List Turn3) (x : Turn3) (l : List Turn3) : turnsG p (x :: l) = if turnF p x≠0 then turnF p x else turnsG (p ++ [x]) l:=rfl
def TurnAt (xs : List Turn3) (k : Nat) : Prop:=turnsG [] xs = turnsG (xs.take k) (xs.drop k)
section
variable {xs : List Turn3} {k : Nat} {x : Turn3} {p : List Turn3}
theorem TurnAt.zero (xs : List Turn3) : TurnAt xs 0:=by simp [TurnAt]
theorem TurnAt.bad {e : Int} (h : TurnAt xs k) (hx : xs[k]? = some x) (hf : turnF (xs.take k) x = e) (he : e≠0) : turnsG [] xs = e:=by
 rw [h,drop_at hx,turnsG_cons,hf,if_pos he]
theorem TurnAt.next (h : TurnAt xs k) (hx : xs[k]? = some x) (hf : turnF (xs.take k) x = 0) : TurnAt xs (k+1):=by
 (have e : xs.take (k+1) = xs.take k ++ [x]:=by rw [List.take_add_one,hx]; rfl);unfold TurnAt at *;rw [h,drop_at hx,turnsG_cons,hf,if_neg (by simp),e]
theorem TurnAt.ok (h : TurnAt xs k) (hk : xs.length≤k) : turnsG [] xs = 0:=by
 rw [h,List.drop_of_length_le hk]; rfl
end

structure Board4 where
 pairs : List Pair2
 barred : List Pair2
 heads : List ByteArray
 turns : List Turn3
def clash (b : Board4) : Bool:=b.pairs.any fun p=>inP b.barred p.paper p.person
noncomputable def boardF (b : Board4) : Int :=
 if pairsF b.pairs≠0 then pairsF b.pairs else if pairsF b.barred≠0 then pairsF b.barred else if clash b = true then 13 else if 20 < b.heads.length then 2 else if riseF none b.heads≠0 then riseF none b.heads else turnsF b.turns
def mayB (b : Board4) (p q : ByteArray) (m : Int) : Bool:=openAt b.turns p m && !inP b.barred p q && (memB q b.heads || inP b.pairs p q)
end Go.Proofs.YtjbaijgdkkccbaaGreatDoor
