/- Papers: how they lie in memory, what is wrong with them. No program in sight. -/
import Derived.Test.YtjbaijgdkkccbaaGreatDoorAa
import Derived.Test.YtjbaijgdkkccbaaGreatDoorKc
import Derived.Test.YtjbaijgdkkccbaaGreatDoorBa
import Derived.Test.YtjbaijgdkkccbaaGreatDoorRa
import Derived.Test.YtjbaijgdkkccbaaGreatDoorSj
import Derived.Test.YtjbaijgdkkccbaaGreatDoorZn
namespace Go.Proofs.YtjbaijgdkkccbaaGreatDoor
open Go.RowKit

structure Pap where
 id : ByteArray
 track : ByteArray
 title : ByteArray
 authors : List ByteArray
 topics : List ByteArray
def PapSmall (x : Pap) : Prop:=x.id.size≤1000000∧x.track.size≤1000000∧x.title.size≤1000000∧x.authors.length≤1000∧x.topics.length≤1000
def RPap : Rel Pap:=fun F w vs x=>∃ aa ac ta tc,vs = [.string x.id,.string x.track,.string x.title,.slice aa x.authors.length ac,.slice ta x.topics.length tc]∧x.authors.length≤ac∧x.topics.length≤tc∧PapSmall x ∧
 Sl RStr 1 F w aa x.authors.length x.authors∧Sl RStr 1 F w ta x.topics.length x.topics
theorem RPap.ok : RPap.Ok:=by
 refine ⟨?_,?_,?_⟩
 ·rintro F w w' vs x hk ⟨aa,ac,ta,tc,rfl,h0,h1,h2,h3,h4⟩;exact ⟨aa,ac,ta,tc,rfl,h0,h1,h2,h3.keep RStr.ok hk,h4.keep RStr.ok hk⟩
 ·rintro F G w vs x hk ⟨aa,ac,ta,tc,rfl,h0,h1,h2,h3,h4⟩;exact ⟨aa,ac,ta,tc,rfl,h0,h1,h2,h3.mono RStr.ok hk,h4.mono RStr.ok hk⟩
 ·rintro F w vs x ⟨aa,ac,ta,tc,rfl,h0,h1,h2,h3,h4⟩;exact ⟨aa,ac,ta,tc,rfl,h0,h1,h2,h3.live RStr.ok (by decide),h4.live RStr.ok (by decide)⟩
theorem Sl.atPap {F : Nat→Prop} {w : World} {a : Option Addr} {len : Nat} {xs : List Pap} (h : Sl RPap 5 F w a len xs) {k : Nat} (hk : k < len) :
  ∃ b off x aa ac ta tc,a = some ⟨b,off,none⟩∧F b∧w.cell? ⟨b,off+k*5,none⟩ = some (.string x.id)∧w.cell? ⟨b,off+k*5+1,none⟩ = some (.string x.track)∧w.cell? ⟨b,off+k*5+2,none⟩ = some (.string x.title) ∧
   w.cell? ⟨b,off+k*5+3,none⟩ = some (.slice aa x.authors.length ac)∧w.cell? ⟨b,off+k*5+4,none⟩ = some (.slice ta x.topics.length tc)∧x.authors.length≤ac∧x.topics.length≤tc∧PapSmall x ∧
   Sl RStr 1 F w aa x.authors.length x.authors∧Sl RStr 1 F w ta x.topics.length x.topics∧xs[k]? = some x∧xs.take (k+1) = xs.take k ++ [x]:=by
 obtain ⟨b,off,vs,x,ha,hF,h1,h2,⟨aa,ac,ta,tc,rfl,g0,g1,g2,g3,g4⟩,h4,h5,h6⟩:=h.at hk;exact ⟨b,off,x,aa,ac,ta,tc,ha,hF,(h2 0 (by simp)).trans rfl,(h2 1 (by simp)).trans rfl,(h2 2 (by simp)).trans rfl,(h2 3 (by simp)).trans rfl,(h2 4 (by simp)).trans rfl,g0,g1,g2,g3,g4,h4,h6⟩

noncomputable def behindB (prev : Option ByteArray) (s : ByteArray) : Bool:=match prev with | none=>false | some q=>leB s q
noncomputable def papF (prev : Option ByteArray) (p : Pap) : Int :=
 if isKeyB p.id = false∨isKeyB p.track = false then 5
 else if behindB prev p.id = true then 7
 else if lineB p.title 200 = false∨p.authors.length = 0 then 3
 else if 20 < p.authors.length then 2
 else if orderG [] p.authors≠0 then orderG [] p.authors
 else if 100 < p.topics.length then 2 else riseF none p.topics
noncomputable def papersG : Option ByteArray→List Pap→Int
 | _,[]=>0
 | prev,p :: l=>if papF prev p≠0 then papF prev p else papersG (some p.id) l
noncomputable def papersF (l : List Pap) : Int:=if 400 < l.length then 2 else papersG none l
theorem papersG_cons (prev : Option ByteArray) (p : Pap) (l : List Pap) : papersG prev (p :: l) = if papF prev p≠0 then papF prev p else papersG (some p.id) l:=rfl
def lastId (l : List Pap) : Option ByteArray:=l.getLast?.map (·.id)
def PapAt (xs : List Pap) (k : Nat) : Prop:=papersG none xs = papersG (lastId (xs.take k)) (xs.drop k)
section
variable {xs : List Pap} {k : Nat} {p : Pap}
theorem lastId_zero (xs : List Pap) : lastId (xs.take 0) = none:=by simp [lastId]
theorem lastId_succ (hp : xs[k]? = some p) : lastId (xs.take (k+1)) = some p.id:=by rw [lastId,last_take hp]; rfl
theorem PapAt.zero (xs : List Pap) : PapAt xs 0:=by simp [PapAt,lastId]
theorem PapAt.bad {e : Int} (h : PapAt xs k) (hp : xs[k]? = some p) (hb : papF (lastId (xs.take k)) p = e) (he : e≠0) : papersG none xs = e:=by
 rw [h,drop_at hp,papersG_cons,hb,if_pos he]
theorem PapAt.next (h : PapAt xs k) (hp : xs[k]? = some p) (hb : papF (lastId (xs.take k)) p = 0) : PapAt xs (k+1):=by
 unfold PapAt at *;rw [h,drop_at hp,papersG_cons,hb,if_neg (by simp),lastId_succ hp]
theorem PapAt.ok (h : PapAt xs k) (hk : xs.length≤k) : papersG none xs = 0:=by
 rw [h,List.drop_of_length_le hk]; rfl
end
theorem papersF_large {xs : List Pap} (h : 400 < xs.length) : papersF xs = 2:=by rw [papersF,if_pos h]
theorem papersF_some {xs : List Pap} (h : ¬ 400 < xs.length) : papersF xs = papersG none xs:=by rw [papersF,if_neg h]
section
variable {prev : Option ByteArray} {p : Pap}
theorem papF_name (h : isKeyB p.id = false∨isKeyB p.track = false) : papF prev p = 5:=by rw [papF,if_pos h]
theorem papF_order (h1 : isKeyB p.id = true) (h2 : isKeyB p.track = true) (h : behindB prev p.id = true) : papF prev p = 7:=by rw [papF,if_neg (by simp [h1,h2]),if_pos h]
theorem papF_form (h1 : isKeyB p.id = true) (h2 : isKeyB p.track = true) (h3 : behindB prev p.id = false) (h : lineB p.title 200 = false∨p.authors.length = 0) : papF prev p = 3:=by rw [papF,if_neg (by simp [h1,h2]),if_neg (by simp [h3]),if_pos h]
theorem papF_good (h1 : isKeyB p.id = true) (h2 : isKeyB p.track = true) (h3 : behindB prev p.id = false) (h4 : lineB p.title 200 = true) (h5 : p.authors.length≠0) :
  papF prev p = if 20 < p.authors.length then 2 else if orderG [] p.authors≠0 then orderG [] p.authors else if 100 < p.topics.length then 2 else riseF none p.topics:=by
 rw [papF,if_neg (by simp [h1,h2]),if_neg (by simp [h3]),if_neg (fun h=>h.elim (fun h=>by simp [h4] at h) h5)]
end
end Go.Proofs.YtjbaijgdkkccbaaGreatDoor

/- Papers that rise: where one is. -/
namespace Go.Proofs.YtjbaijgdkkccbaaGreatDoor
open Go.RowKit

def RisesPap (xs : List Pap) : Prop:=xs.Pairwise fun x y=>Op.bytesLess x.id.toList y.id.toList = true
theorem papF_ord {p : Option ByteArray} {x : Pap} (h : papF p x = 0) : behindB p x.id = false:=by
 unfold papF at h;split at h
 ·omega
 ·split at h
  ·omega
  ·rename_i h1; simpa using h1
theorem papersG_rises : ∀ {xs : List Pap} {p : Option ByteArray},papersG p xs = 0→RisesPap xs∧∀ q,p = some q→∀ x ∈ xs,Op.bytesLess q.toList x.id.toList = true
 | [],_,_=>⟨List.Pairwise.nil,by simp⟩
 | x :: l,p,h=>by
  rw [papersG_cons] at h;by_cases hf : papF p x = 0
  ·rw [if_neg (by simp [hf])] at h;obtain ⟨h1,h2⟩:=papersG_rises h;have hx : ∀ q,p = some q→Op.bytesLess q.toList x.id.toList = true:=fun q hq=>by
    have:=papF_ord hf;subst hq;exact leB_false this
   refine ⟨List.pairwise_cons.2 ⟨fun y hy=>h2 _ rfl y hy,h1⟩,fun q hq y hy=>?_⟩;rcases List.mem_cons.1 hy with rfl | hy
   ·exact hx q hq
   ·exact bl_trans (hx q hq) (h2 _ rfl y hy)
  ·rw [if_pos hf] at h;exact absurd h hf
theorem papersF_rises {xs : List Pap} (h : papersF xs = 0) : RisesPap xs:=by
 unfold papersF at h;split at h
 ·omega
 ·exact (papersG_rises h).1
theorem papersF_len {xs : List Pap} (h : papersF xs = 0) : xs.length≤400:=by
 unfold papersF at h;split at h
 ·omega
 ·omega

def isPap (p : ByteArray) (f : Pap) : Bool:=decide (f.id = p)
def papOf (xs : List Pap) (p : ByteArray) : Option Pap:=xs.find? (isPap p)
def cntPap (xs : List Pap) (p : ByteArray) : Nat:=xs.countP fun f=>Op.bytesLess f.id.toList p.toList

theorem cntPap_boundary : ∀ {xs : List Pap} {p : ByteArray} {i : Nat},i≤xs.length→(∀ (t : Nat) (f : Pap),xs[t]? = some f→t < i→Op.bytesLess f.id.toList p.toList = true)→(∀ (t : Nat) (f : Pap),xs[t]? = some f→i≤t→Op.bytesLess f.id.toList p.toList = false)→cntPap xs p = i
 | [],p,i,hi,_,_=>by simp at hi; simp [cntPap,hi]
 | a :: r,p,0,_,_,h2=>by
  unfold cntPap;rw [List.countP_eq_zero];intro x hx;obtain ⟨t,ht,rfl⟩:=List.getElem_of_mem hx;have:=h2 t _ (List.getElem?_eq_getElem ht) (Nat.zero_le _);simp [this]
 | a :: r,p,i+1,hi,h1,h2=>by
  have ha:=h1 0 a rfl (Nat.succ_pos _);unfold cntPap;rw [List.countP_cons_of_pos (by exact ha)];have:=cntPap_boundary (xs:=r) (p:=p) (i:=i) (by simpa using hi) (fun t f hf ht=>h1 (t+1) f (by simpa using hf) (by omega)) (fun t f hf ht=>h2 (t+1) f (by simpa using hf) (by omega));unfold cntPap at this;rw [this]
theorem papOf_cnt : ∀ {xs : List Pap} {p : ByteArray} {f : Pap},RisesPap xs→papOf xs p = some f→xs[cntPap xs p]? = some f∧f.id = p
 | [],_,_,_,h=>by cases h
 | a :: r,p,f,hr,h=>by
  obtain ⟨h1,h2⟩:=List.pairwise_cons.1 hr;unfold papOf at h;rw [List.find?_cons] at h;by_cases e : a.id = p
  ·(have : isPap p a = true:=by simp [isPap,e]);rw [this] at h;injection h with h;subst h;have hc : cntPap (a :: r) p = 0:=by
    unfold cntPap;rw [List.countP_eq_zero];intro x hx;rcases List.mem_cons.1 hx with rfl | hx
    ·rw [e]; simp [bl_irrefl]
    ·intro hb;have:=bl_trans (h1 x hx) hb;rw [e,bl_irrefl] at this; cases this
   rw [hc];exact ⟨rfl,e⟩
  ·(have : isPap p a = false:=by simp [isPap,e]);rw [this] at h;obtain ⟨h3,h4⟩:=papOf_cnt h2 h;refine ⟨?_,h4⟩;have hm : f ∈ r:=List.mem_of_find?_eq_some h;(have hlt : Op.bytesLess a.id.toList p.toList = true:=by rw [← h4]; exact h1 f hm);(have hc : cntPap (a :: r) p = cntPap r p+1:=by unfold cntPap; rw [List.countP_cons_of_pos (by exact hlt)]);rw [hc];exact h3
theorem papOf_has {xs : List Pap} {p : ByteArray} {i : Nat} {f : Pap} (hi : xs[i]? = some f) (hp : f.id = p) : (papOf xs p).isSome = true:=by
 unfold papOf;rw [List.find?_isSome];exact ⟨f,List.mem_of_getElem? hi,by simp [isPap,hp]⟩

theorem paperOf1_any (x : Pap) (aa : Option Addr) (la ac : Nat) (ta : Option Addr) (lt tc : Nat) (p : ByteArray) (w : World) :
  Calls Tryz.prog 156 #[.agg #[.string x.id,.string x.track,.string x.title,.slice aa la ac,.slice ta lt tc],.string p] w fun e w'=>e = .returned (.int .i64 (Lib.compareBytes x.id.data.toList p.data.toList))∧All w w':=by
 (go_enter Tryz.func156,Tryz.ntmps156);(go_wp2_with fail);refine (Tryz.strings_Compare _ _ _).mono ?_;rintro e w' ⟨rfl,rfl⟩;(go_wp2_with fail);go_ret;exact ⟨rfl,Kept.alloc _ _ _⟩

def BndPap (xs : List Pap) (p : ByteArray) (lo hi : Nat) : Prop :=
 (∀ (t : Nat) (f : Pap),xs[t]? = some f→t < lo→Op.bytesLess f.id.toList p.toList = true)∧(∀ (t : Nat) (f : Pap),xs[t]? = some f→hi≤t→Op.bytesLess f.id.toList p.toList = false)
theorem BndPap.start (xs : List Pap) (p : ByteArray) : BndPap xs p 0 xs.length :=
 ⟨fun _ _ _ h=>absurd h (by omega),fun t f h1 h2=>by rw [List.getElem?_eq_none h2] at h1; cases h1⟩
theorem RisesPap.lt {xs : List Pap} (h : RisesPap xs) {i j : Nat} {x y : Pap} (hi : xs[i]? = some x) (hj : xs[j]? = some y) (hij : i < j) : Op.bytesLess x.id.toList y.id.toList = true:=by
 obtain ⟨h1,rfl⟩:=List.getElem?_eq_some_iff.1 hi;obtain ⟨h2,rfl⟩:=List.getElem?_eq_some_iff.1 hj;exact List.pairwise_iff_getElem.1 h i j h1 h2 hij
theorem BndPap.up {xs : List Pap} {p : ByteArray} {lo hi m : Nat} {y : Pap} (h : BndPap xs p lo hi) (hr : RisesPap xs) (hy : xs[m]? = some y) (hc : Lib.compareBytes y.id.data.toList p.data.toList < 0) : BndPap xs p (m+1) hi:=by
 rw [cmp_neg,← tl_data,← tl_data] at hc;refine ⟨fun t f hf ht=>?_,h.2⟩;by_cases e : t = m
 ·subst e; rw [hf] at hy; cases hy; exact hc
 ·exact bl_trans (hr.lt hf hy (by omega)) hc
theorem BndPap.down {xs : List Pap} {p : ByteArray} {lo hi m : Nat} {y : Pap} (h : BndPap xs p lo hi) (hr : RisesPap xs) (hy : xs[m]? = some y) (hc : ¬ Lib.compareBytes y.id.data.toList p.data.toList < 0) : BndPap xs p lo m:=by
 rw [cmp_neg,← tl_data,← tl_data] at hc;refine ⟨h.1,fun t f hf ht=>?_⟩
 cases hb : Op.bytesLess f.id.toList p.toList with
 | false=>rfl
 | true =>
  exfalso;by_cases e : t = m
  ·subst e; rw [hf] at hy; cases hy; exact hc hb
  ·exact hc (bl_trans (hr.lt hy hf (by omega)) hb)
theorem BndPap.cnt {xs : List Pap} {p : ByteArray} {lo : Nat} (h : BndPap xs p lo lo) (hl : lo≤xs.length) : cntPap xs p = lo:=cntPap_boundary hl h.1 h.2
theorem foundPap_at {xs : List Pap} {p : ByteArray} {lo : Nat} {y : Pap} (hr : RisesPap xs) (hc : cntPap xs p = lo) (hy : xs[lo]? = some y) : (papOf xs p).isSome = decide (Lib.compareBytes y.id.data.toList p.data.toList = 0):=by
 by_cases e : y.id = p
 ·rw [papOf_has hy e]; simp [cmp_zero,e]
 ·(have hn : Lib.compareBytes y.id.data.toList p.data.toList≠0:=fun h=>e (Go.WideShapes.bytes_inj ((cmp_zero _ _).1 h)));rw [decide_eq_false hn]
  cases hf : papOf xs p with
  | none=>rfl
  | some f =>
   obtain ⟨h1,h2⟩:=papOf_cnt hr hf;rw [hc,hy] at h1
   cases h1
   exact absurd h2 e
theorem foundPap_no {xs : List Pap} {p : ByteArray} (hr : RisesPap xs) (hc : cntPap xs p = xs.length) : (papOf xs p).isSome = false:=by
 cases hf : papOf xs p with
 | none=>rfl
 | some f =>
  have h1:=(papOf_cnt hr hf).1;rw [hc,List.getElem?_eq_none (Nat.le_refl _)] at h1
  cases h1

def PapPost (xs : List Pap) (p : ByteArray) (w : World) (e : Ending) (w' : World) : Prop:=e = .returned (.tuple #[.int .i64 (cntPap xs p),.bool (papOf xs p).isSome])∧All w w'

set_option maxRecDepth 100000 in
set_option maxHeartbeats 3200000 in
theorem binSearchPap_any (a : Option Addr) (len cap : Nat) (xs : List Pap) (p : ByteArray) (w : World) (hs : Sl RPap 5 (fun _=>True) w a len xs) (hl : len≤1000) (hr : RisesPap xs) :
  Calls Tryz.prog 155 #[.slice a len cap,.string p,.func (.func 156) #[] #[]] w (PapPost xs p w):=by
 have Hlen:=Lib.hid hs.len;have HR:=Lib.hid hr;have HB:=Lib.hid (BndPap.start xs p);have eg : ∀ args w,(callFunc 156 args).run Tryz.prog w = .ok (.enter 156 args) w:=enters_of Tryz.func156 (by kernel_rfl) rfl;clear hr;(go_enter Tryz.func155,Tryz.ntmps155);(go_wp2_with fail);go_loopw [9,10] (fun i j wr=>∃ lo hi : Nat,i = .int .i64 lo∧j = .int .i64 hi∧lo≤hi∧hi≤len∧BndPap xs p lo hi∧All w wr) (fun i j _=>(intOf j - intOf i).toNat)
 case atStart=>exact ⟨0,len,rfl,rfl,Nat.zero_le _,Nat.le_refl _,by have:=HB.out; rw [Hlen.out] at this; exact this,Kept.refl _ _⟩
 case round =>
  obtain ⟨lo,hi,rfl,rfl,hle,hhi,hb,hall⟩:=hrel;by_cases hlt : lo < hi
  ·obtain ⟨b,off,y,aa,ac,ta,tc,ha,-,c0,c1,c2,c3,c4,-,-,-,-,-,hy,-⟩:=(hs.keep RPap.ok hall).atPap (k:=(lo+hi) / 2) (by omega);subst ha;have Hy:=Lib.hid hy;have Hb:=Lib.hid hb;clear hy hb hs;by_cases hc : Lib.compareBytes y.id.data.toList p.data.toList < 0
   ·have hn:=Lib.hid (Hb.out.up HR.out Hy.out hc);(go_wp2_with fail);refine (paperOf1_any y _ _ _ _ _ _ p _).mono ?_;rintro e w2 ⟨rfl,hw2⟩;(go_wp2_with fail);go_roundw
    case rel=>exact ⟨(lo+hi) / 2+1,hi,by go_num,rfl,by omega,hhi,hn.out,hall.trans hw2⟩
    case measure=>simp [intOf]; omega
   ·have hn:=Lib.hid (Hb.out.down HR.out Hy.out hc);have hd : decide (Lib.compareBytes y.id.data.toList p.data.toList < 0) = false:=decide_eq_false hc;clear hc;(go_wp2_with fail);refine (paperOf1_any y _ _ _ _ _ _ p _).mono ?_;rintro e w2 ⟨rfl,hw2⟩;(go_wp2_with fail);go_roundw
    case rel=>exact ⟨lo,(lo+hi) / 2,rfl,by go_num,by omega,by omega,hn.out,hall.trans hw2⟩
    case measure=>simp [intOf]; omega
  ·(have hd : decide ((lo : Int) < (hi : Int)) = false:=by simp; omega);have hb2 : BndPap xs p lo lo:=by
    (have he : hi = lo:=by omega);rw [he] at hb; exact hb
   have hcn:=Lib.hid (hb2.cnt (by have:=Hlen.out; omega));clear hb2;clear hb;by_cases hll : lo < len
   ·obtain ⟨b,off,y,aa,ac,ta,tc,ha,-,c0,c1,c2,c3,c4,-,-,-,-,-,hy,-⟩:=(hs.keep RPap.ok hall).atPap hll;subst ha;have hfo:=Lib.hid (foundPap_at HR.out hcn.out hy);clear hy hs;by_cases hz : Lib.compareBytes y.id.data.toList p.data.toList = 0
    ·(have dz : (Lib.compareBytes y.id.data.toList p.data.toList == 0) = true:=by simp [hz]);have hfo2:=Lib.hid (hfo.out.trans (decide_eq_true hz));clear hz;(go_wp2_with fail);refine (paperOf1_any y _ _ _ _ _ _ p _).mono ?_;rintro e w2 ⟨rfl,hw2⟩;(go_wp2_with fail);go_ret2;exact ⟨by rw [hcn.out,hfo2.out]; rfl,hall.trans hw2⟩
    ·(have dz : (Lib.compareBytes y.id.data.toList p.data.toList == 0) = false:=by simp [hz]);have hfo2:=Lib.hid (hfo.out.trans (decide_eq_false hz));clear hz;(go_wp2_with fail);refine (paperOf1_any y _ _ _ _ _ _ p _).mono ?_;rintro e w2 ⟨rfl,hw2⟩;(go_wp2_with fail);go_ret2;exact ⟨by rw [hcn.out,hfo2.out]; rfl,hall.trans hw2⟩
   ·(have hd2 : decide ((lo : Int) < (len : Int)) = false:=by simp; omega);have hfo2:=Lib.hid (foundPap_no HR.out (show cntPap xs p = xs.length by have:=hcn.out; have:=Hlen.out; omega));clear hs;(go_wp2_with fail);go_ret2;exact ⟨by rw [hcn.out,hfo2.out]; rfl,hall⟩

end Go.Proofs.YtjbaijgdkkccbaaGreatDoor

/- paperOf, isAuthor of package review; the reference's PaperAt, author. -/
namespace Go.Proofs.YtjbaijgdkkccbaaGreatDoor
open Go.RowKit

def PapVal (xs : List Pap) (p : ByteArray) (F : Nat→Prop) (w : World) (v : Value) : Prop :=
 match papOf xs p with
 | none=>v = .tuple #[.agg #[.string ⟨#[]⟩,.string ⟨#[]⟩,.string ⟨#[]⟩,.slice none 0 0,.slice none 0 0],.bool false]
 | some x=>∃ aa ac ta tc,v = .tuple #[.agg #[.string x.id,.string x.track,.string x.title,.slice aa x.authors.length ac,.slice ta x.topics.length tc],.bool true]∧x.authors.length≤ac∧x.topics.length≤tc∧PapSmall x∧Sl RStr 1 F w aa x.authors.length x.authors∧Sl RStr 1 F w ta x.topics.length x.topics

set_option maxRecDepth 100000 in
set_option maxHeartbeats 3200000 in
theorem paperOf_any (a : Option Addr) (len cap : Nat) (xs : List Pap) (p : ByteArray) (w : World) (hs : Sl RPap 5 (fun _=>True) w a len xs) (hl : len≤1000) (hr : RisesPap xs) :
  Calls Tryz.prog 80 #[.slice a len cap,.string p] w fun e w'=>(∃ v,e = .returned v∧PapVal xs p (fun _=>True) w' v)∧All w w':=by
 have Hlen:=Lib.hid hs.len;have hk1 : All w (w.alloc (.cells #[.string ⟨#[]⟩,.string ⟨#[]⟩,.string ⟨#[]⟩,.slice none 0 0,.slice none 0 0] 128)):=Kept.alloc _ _ _;have hb1:=heap_at w (.cells #[.string ⟨#[]⟩,.string ⟨#[]⟩,.string ⟨#[]⟩,.slice none 0 0,.slice none 0 0] 128) _ rfl;have HF:=Lib.hid (binSearchPap_any a len cap xs p _ (hs.keep RPap.ok hk1) hl hr);unfold PapPost at HF
 cases hpo : papOf xs p with
 | none =>
  have HR:=Lib.hid (show ∀ wx v,v = .tuple #[.agg #[.string ⟨#[]⟩,.string ⟨#[]⟩,.string ⟨#[]⟩,.slice none 0 0,.slice none 0 0],.bool false]→PapVal xs p (fun _=>True) wx v from fun wx v h=>by unfold PapVal; rw [hpo]; exact h);rw [hpo] at HF;clear hpo hs;(go_enter Tryz.func80,Tryz.ntmps80);(go_wp2_with fail);refine HF.out.mono ?_;rintro e w2 ⟨rfl,hw2⟩;have hbb:=hw2.heap hb1 trivial;have hwb:=hk1.trans hw2;clear HF;have y0:=cell_at (i:=0) hbb rfl;have u0:=frozen_at (i:=0) hbb;have y1:=cell_at (i:=1) hbb rfl;have u1:=frozen_at (i:=1) hbb;have y2:=cell_at (i:=2) hbb rfl;have u2:=frozen_at (i:=2) hbb;have y3:=cell_at (i:=3) hbb rfl;have u3:=frozen_at (i:=3) hbb;have y4:=cell_at (i:=4) hbb rfl;have u4:=frozen_at (i:=4) hbb;have hfin:=(heap_setCell_at _ w.heap.size 4 (.slice none 0 0) _ _ _ (heap_setCell_at _ w.heap.size 3 (.slice none 0 0) _ _ _ (heap_setCell_at _ w.heap.size 2 (.string ⟨#[]⟩) _ _ _ (heap_setCell_at _ w.heap.size 1 (.string ⟨#[]⟩) _ _ _ (heap_setCell_at _ w.heap.size 0 (.string ⟨#[]⟩) _ _ _ hbb)))));simp only [List.setIfInBounds_toArray,List.set_cons_zero,List.set_cons_succ] at hfin;have q0:=cell_at (i:=0) hfin rfl;have q1:=cell_at (i:=1) hfin rfl;have q2:=cell_at (i:=2) hfin rfl;have q3:=cell_at (i:=3) hfin rfl;have q4:=cell_at (i:=4) hfin rfl;have hkf:=Lib.hid (((((hwb.then_setNew ⟨w.heap.size,0,none⟩ (.string ⟨#[]⟩) (Nat.le_refl _)).then_setNew ⟨w.heap.size,1,none⟩ (.string ⟨#[]⟩) (Nat.le_refl _)).then_setNew ⟨w.heap.size,2,none⟩ (.string ⟨#[]⟩) (Nat.le_refl _)).then_setNew ⟨w.heap.size,3,none⟩ (.slice none 0 0) (Nat.le_refl _)).then_setNew ⟨w.heap.size,4,none⟩ (.slice none 0 0) (Nat.le_refl _));clear hbb hfin hb1 hw2 hk1;(go_wp2_with fail);refine bodyPost_ret (v:=.tuple #[.agg #[.string ⟨#[]⟩,.string ⟨#[]⟩,.string ⟨#[]⟩,.slice none 0 0,.slice none 0 0],.bool false]) ?_ rfl ⟨⟨_,rfl,HR.out _ _ rfl⟩,hkf.out⟩;simp [results,Tryz.results80,go_sem,q0,q1,q2,q3,q4]
 | some x =>
  obtain ⟨hxi,-⟩:=papOf_cnt hr hpo;obtain ⟨i,hi⟩ : ∃ i,i = cntPap xs p:=⟨_,rfl⟩;have HR:=Lib.hid (show ∀ wx v,(∃ aa ac ta tc,v = .tuple #[.agg #[.string x.id,.string x.track,.string x.title,.slice aa x.authors.length ac,.slice ta x.topics.length tc],.bool true]∧x.authors.length≤ac∧x.topics.length≤tc∧PapSmall x∧Sl RStr 1 (fun _=>True) wx aa x.authors.length x.authors∧Sl RStr 1 (fun _=>True) wx ta x.topics.length x.topics)→PapVal xs p (fun _=>True) wx v from fun wx v h=>by unfold PapVal; rw [hpo]; exact h);rw [hpo,← hi] at HF;rw [← hi] at hxi;(have hil : i < len:=by have:=(List.getElem?_eq_some_iff.1 hxi).1; have:=Hlen.out; omega);(have hi1 : (0 : Int)≤(i : Int):=by omega);(have hi2 : (i : Int) < (len : Int):=by omega);have HXI:=Lib.hid hxi;clear hpo hi hxi;(go_enter Tryz.func80,Tryz.ntmps80);(go_wp2_with fail);refine HF.out.mono ?_;rintro e w2 ⟨rfl,hw2⟩;have hbb:=hw2.heap hb1 trivial;have hwb:=hk1.trans hw2;obtain ⟨b,off,x',aa,ac,ta,tc,ha,-,c0',c1',c2',c3',c4',hac,htc,hsm,hsa,hst,hxi,-⟩:=((hs.live RPap.ok (by decide)).mono RPap.ok (G:=fun k=>k < w.heap.size) (fun k h=>h.2)).atPap (k:=i) hil;subst ha;obtain rfl : x' = x:=Option.some.inj (hxi.symm.trans HXI.out);have c0:=hwb.cell c0' trivial;have c1:=hwb.cell c1' trivial;have c2:=hwb.cell c2' trivial;have c3:=hwb.cell c3' trivial;have c4:=hwb.cell c4' trivial;have HV:=Lib.hid (fun (wx : World) (k : Kept (fun k=>k < w.heap.size) w wx)=>(⟨aa,ac,ta,tc,rfl,hac,htc,hsm,(hsa.keep RStr.ok k).mono RStr.ok (fun _ _=>trivial),(hst.keep RStr.ok k).mono RStr.ok (fun _ _=>trivial)⟩ : ∃ aa' ac' ta' tc',(Value.tuple #[.agg #[.string x'.id,.string x'.track,.string x'.title,.slice aa x'.authors.length ac,.slice ta x'.topics.length tc],.bool true]) = .tuple #[.agg #[.string x'.id,.string x'.track,.string x'.title,.slice aa' x'.authors.length ac',.slice ta' x'.topics.length tc'],.bool true]∧x'.authors.length≤ac'∧x'.topics.length≤tc'∧PapSmall x'∧Sl RStr 1 (fun _=>True) wx aa' x'.authors.length x'.authors∧Sl RStr 1 (fun _=>True) wx ta' x'.topics.length x'.topics));clear c0' c1' c2' c3' c4' hac htc hsm hsa hst HF hs hxi;have y0:=cell_at (i:=0) hbb rfl;have u0:=frozen_at (i:=0) hbb;have y1:=cell_at (i:=1) hbb rfl;have u1:=frozen_at (i:=1) hbb;have y2:=cell_at (i:=2) hbb rfl;have u2:=frozen_at (i:=2) hbb;have y3:=cell_at (i:=3) hbb rfl;have u3:=frozen_at (i:=3) hbb;have y4:=cell_at (i:=4) hbb rfl;have u4:=frozen_at (i:=4) hbb;have hfin:=(heap_setCell_at _ w.heap.size 4 (.slice ta x'.topics.length tc) _ _ _ (heap_setCell_at _ w.heap.size 3 (.slice aa x'.authors.length ac) _ _ _ (heap_setCell_at _ w.heap.size 2 (.string x'.title) _ _ _ (heap_setCell_at _ w.heap.size 1 (.string x'.track) _ _ _ (heap_setCell_at _ w.heap.size 0 (.string x'.id) _ _ _ hbb)))));simp only [List.setIfInBounds_toArray,List.set_cons_zero,List.set_cons_succ] at hfin;have q0:=cell_at (i:=0) hfin rfl;have q1:=cell_at (i:=1) hfin rfl;have q2:=cell_at (i:=2) hfin rfl;have q3:=cell_at (i:=3) hfin rfl;have q4:=cell_at (i:=4) hfin rfl;have hkf:=Lib.hid (((((hwb.then_setNew ⟨w.heap.size,0,none⟩ (.string x'.id) (Nat.le_refl _)).then_setNew ⟨w.heap.size,1,none⟩ (.string x'.track) (Nat.le_refl _)).then_setNew ⟨w.heap.size,2,none⟩ (.string x'.title) (Nat.le_refl _)).then_setNew ⟨w.heap.size,3,none⟩ (.slice aa x'.authors.length ac) (Nat.le_refl _)).then_setNew ⟨w.heap.size,4,none⟩ (.slice ta x'.topics.length tc) (Nat.le_refl _));clear hbb hfin hb1 hw2 hk1;(go_wp2_with fail);refine bodyPost_ret (v:=.tuple #[.agg #[.string x'.id,.string x'.track,.string x'.title,.slice aa x'.authors.length ac,.slice ta x'.topics.length tc],.bool true]) ?_ rfl ⟨⟨_,rfl,HR.out _ _ (HV.out _ hkf.out.all)⟩,hkf.out⟩;simp [results,Tryz.results80,go_sem,q0,q1,q2,q3,q4]


def authB (xs : List Pap) (p who : ByteArray) : Bool:=match papOf xs p with | none=>false | some x=>memB who x.authors
set_option maxRecDepth 100000 in
set_option maxHeartbeats 3200000 in
theorem isAuthor_any (s0 : Option Addr) (n0 k0 : Nat) (s1 : Option Addr) (n1 k1 : Nat) (s2 : Option Addr) (n2 k2 : Nat) (s3 : Option Addr) (n3 k3 : Nat) (s4 : Option Addr) (n4 k4 : Nat) (due rep : Int) (xs : List Pap) (p who : ByteArray) (w : World) (hs : Sl RPap 5 (fun _=>True) w s1 n1 xs) (hl : n1≤1000) (hr : RisesPap xs) :
  Calls Tryz.prog 75 #[.agg #[.slice s0 n0 k0,.slice s1 n1 k1,.slice s2 n2 k2,.slice s3 n3 k3,.slice s4 n4 k4,.int .i64 due,.int .i64 rep],.string p,.string who] w fun e w'=>e = .returned (.bool (authB xs p who))∧All w w':=by
 have hk1 : All w (w.alloc (.cells #[.slice s0 n0 k0,.slice s1 n1 k1,.slice s2 n2 k2,.slice s3 n3 k3,.slice s4 n4 k4,.int .i64 due,.int .i64 rep] 31)):=Kept.alloc _ _ _;have hb:=heap_at w (.cells #[.slice s0 n0 k0,.slice s1 n1 k1,.slice s2 n2 k2,.slice s3 n3 k3,.slice s4 n4 k4,.int .i64 due,.int .i64 rep] 31) _ rfl;have d1:=cell_at (i:=1) hb rfl;have HP:=Lib.hid (paperOf_any s1 n1 k1 xs p _ (hs.keep RPap.ok hk1) hl hr);clear hb hs hr
 cases hpo : papOf xs p with
 | none =>
  have HR:=Lib.hid (show authB xs p who = false by rw [authB,hpo]);unfold PapVal at HP;rw [hpo] at HP;clear hpo;(go_enter Tryz.func75,Tryz.ntmps75);(go_wp2_with fail);refine HP.out.mono ?_;rintro e w2 ⟨⟨v,rfl,hv⟩,hw2⟩;obtain rfl:=hv;have hblk:=heap_at w2 (.cells #[.string ⟨#[]⟩,.string ⟨#[]⟩,.string ⟨#[]⟩,.slice none 0 0,.slice none 0 0] 128) _ rfl;have e3:=cell_at (i:=3) hblk rfl;have HC:=Lib.hid (contains_any none 0 0 [] who (w2.alloc (.cells #[.string ⟨#[]⟩,.string ⟨#[]⟩,.string ⟨#[]⟩,.slice none 0 0,.slice none 0 0] 128)) (Sl.nil RStr 1 (fun _=>True) _ _) (by omega));clear hblk;(go_wp2_with fail);refine HC.out.mono ?_;rintro e w3 ⟨rfl,hh⟩;subst hh;(go_wp2_with fail);go_ret;exact ⟨by rw [HR.out]; rfl,(hk1.trans hw2).then_alloc _⟩
 | some x =>
  have HR:=Lib.hid (show authB xs p who = memB who x.authors by rw [authB,hpo]);unfold PapVal at HP;rw [hpo] at HP;clear hpo;(go_enter Tryz.func75,Tryz.ntmps75);(go_wp2_with fail);refine HP.out.mono ?_;rintro e w2 ⟨⟨v,rfl,hv⟩,hw2⟩;obtain ⟨aa,ac,ta,tc,rfl,hac,htc,⟨-,-,-,hza,-⟩,hsa,hst⟩:=hv;have hblk:=heap_at w2 (.cells #[.string x.id,.string x.track,.string x.title,.slice aa x.authors.length ac,.slice ta x.topics.length tc] 128) _ rfl;have e3:=cell_at (i:=3) hblk rfl;have HC:=Lib.hid (contains_any aa x.authors.length ac x.authors who (w2.alloc (.cells #[.string x.id,.string x.track,.string x.title,.slice aa x.authors.length ac,.slice ta x.topics.length tc] 128)) (hsa.keep RStr.ok (Kept.alloc _ _ _)) (by omega));clear hblk hsa hst hac htc hza;(go_wp2_with fail);refine HC.out.mono ?_;rintro e w3 ⟨rfl,hh⟩;subst hh;(go_wp2_with fail);go_ret;exact ⟨by rw [HR.out]; rfl,(hk1.trans hw2).then_alloc _⟩

end Go.Proofs.YtjbaijgdkkccbaaGreatDoor

/- Setups and reviews: how they lie in memory, what is wrong with them. No program in sight. -/
namespace Go.Proofs.YtjbaijgdkkccbaaGreatDoor
open Go.RowKit

structure Set7 where
 sheet : List Qst
 papers : List Pap
 pairs : List Pair2
 barred : List Pair2
 chairs : List ByteArray
 due : Int
 reply : Int
def knownB (ps : List Pap) (l : List Pair2) : Bool:=l.all fun q=>(papOf ps q.paper).isSome
noncomputable def listF (ps : List Pap) (l : List Pair2) : Int:=if pairsF l≠0 then pairsF l else if knownB ps l = false then 8 else 0
def badP (s : Set7) (q : Pair2) : Bool:=inP s.barred q.paper q.person || authB s.papers q.paper q.person
def clashS (s : Set7) : Bool:=s.pairs.any (badP s)
noncomputable def setupF (s : Set7) : Int :=
 if sheetF s.sheet≠0 then sheetF s.sheet
 else if papersF s.papers≠0 then papersF s.papers
 else if listF s.papers s.pairs≠0 then listF s.papers s.pairs
 else if listF s.papers s.barred≠0 then listF s.papers s.barred
 else if clashS s = true then 13
 else if 20 < s.chairs.length then 2
 else if riseF none s.chairs≠0 then riseF none s.chairs
 else if (s.due < 0∨5761440 < s.due)∨(s.reply < 0∨5761440 < s.reply) then 1 else 0
section
variable {s : Set7}
theorem setupF_1 (h1 : sheetF s.sheet≠0) : setupF s = sheetF s.sheet:=by rw [setupF,if_pos h1]
theorem setupF_2 (h1 : sheetF s.sheet = 0) (h2 : papersF s.papers≠0) : setupF s = papersF s.papers:=by rw [setupF,if_neg (by simp [h1]),if_pos h2]
theorem setupF_3 (h1 : sheetF s.sheet = 0) (h2 : papersF s.papers = 0) (h3 : listF s.papers s.pairs≠0) : setupF s = listF s.papers s.pairs:=by rw [setupF,if_neg (by simp [h1]),if_neg (by simp [h2]),if_pos h3]
theorem setupF_4 (h1 : sheetF s.sheet = 0) (h2 : papersF s.papers = 0) (h3 : listF s.papers s.pairs = 0) (h4 : listF s.papers s.barred≠0) : setupF s = listF s.papers s.barred:=by rw [setupF,if_neg (by simp [h1]),if_neg (by simp [h2]),if_neg (by simp [h3]),if_pos h4]
theorem setupF_ok4 (h1 : sheetF s.sheet = 0) (h2 : papersF s.papers = 0) (h3 : listF s.papers s.pairs = 0) (h4 : listF s.papers s.barred = 0) :
  setupF s = if clashS s = true then 13 else if 20 < s.chairs.length then 2 else if riseF none s.chairs≠0 then riseF none s.chairs else if (s.due < 0∨5761440 < s.due)∨(s.reply < 0∨5761440 < s.reply) then 1 else 0:=by
 rw [setupF,if_neg (by simp [h1]),if_neg (by simp [h2]),if_neg (by simp [h3]),if_neg (by simp [h4])]
theorem listF_pairs {ps : List Pap} {l : List Pair2} (h : pairsF l≠0) : listF ps l = pairsF l:=by rw [listF,if_pos h]
theorem listF_none {ps : List Pap} {l : List Pair2} (h : pairsF l = 0) (h2 : knownB ps l = false) : listF ps l = 8:=by rw [listF,if_neg (by simp [h]),if_pos h2]
theorem listF_ok {ps : List Pap} {l : List Pair2} (h : pairsF l = 0) (h2 : knownB ps l = true) : listF ps l = 0:=by rw [listF,if_neg (by simp [h]),if_neg (by simp [h2])]
theorem listF_pairs0 {ps : List Pap} {l : List Pair2} (h : listF ps l = 0) : pairsF l = 0:=by
 unfold listF at h;split at h
 ·exact h
 ·rename_i h1; simpa using h1
theorem setupF_good (h : setupF s = 0) : sheetF s.sheet = 0∧papersF s.papers = 0∧listF s.papers s.pairs = 0∧listF s.papers s.barred = 0:=by
 by_cases h1 : sheetF s.sheet = 0
 ·by_cases h2 : papersF s.papers = 0
  ·by_cases h3 : listF s.papers s.pairs = 0
   ·by_cases h4 : listF s.papers s.barred = 0
    ·exact ⟨h1,h2,h3,h4⟩
    ·exact absurd ((setupF_4 h1 h2 h3 h4).symm.trans h) h4
   ·exact absurd ((setupF_3 h1 h2 h3).symm.trans h) h3
  ·exact absurd ((setupF_2 h1 h2).symm.trans h) h2
 ·exact absurd ((setupF_1 h1).symm.trans h) h1
theorem setupF_rises (h : setupF s = 0) : RisesPap s.papers∧s.papers.length≤400∧s.pairs.Pairwise ltPP∧s.barred.Pairwise ltPP:=by
 obtain ⟨-,h2,h3,h4⟩:=setupF_good h;exact ⟨papersF_rises h2,papersF_len h2,(pairsF_rises (listF_pairs0 h3)).2,(pairsF_rises (listF_pairs0 h4)).2⟩
end
theorem knownB_take {ps : List Pap} {l : List Pair2} {k : Nat} {q : Pair2} (h : knownB ps (l.take k) = true) (ht : l.take (k+1) = l.take k ++ [q]) (hq : (papOf ps q.paper).isSome = true) : knownB ps (l.take (k+1)) = true:=by
 rw [ht]; unfold knownB at *; rw [List.all_append,h]; simp [hq]
theorem knownB_bad {ps : List Pap} {l : List Pair2} {k : Nat} {q : Pair2} (hx : l[k]? = some q) (hq : (papOf ps q.paper).isSome = false) : knownB ps l = false:=by
 unfold knownB;rw [List.all_eq_false];exact ⟨q,List.mem_of_getElem? hx,by simp [hq]⟩
theorem any_bad {α : Type} {p : α→Bool} {l : List α} {k : Nat} {q : α} (hx : l[k]? = some q) (hq : p q = true) : l.any p = true:=by
 rw [List.any_eq_true]; exact ⟨q,List.mem_of_getElem? hx,hq⟩
theorem any_take {α : Type} {p : α→Bool} {l : List α} {k : Nat} {q : α} (h : (l.take k).any p = false) (ht : l.take (k+1) = l.take k ++ [q]) (hq : p q = false) : (l.take (k+1)).any p = false:=by
 rw [ht,List.any_append,h]; simp [hq]

structure SetIs (F : Nat→Prop) (w : World) (a0 : Option Addr) (l0 : Nat) (a1 : Option Addr) (l1 : Nat) (a2 : Option Addr) (l2 : Nat) (a3 : Option Addr) (l3 : Nat) (a4 : Option Addr) (l4 : Nat) (s : Set7) : Prop where
 sheet : Sl RQst 6 F w a0 l0 s.sheet
 papers : Sl RPap 5 F w a1 l1 s.papers
 pairs : Sl RPair 2 F w a2 l2 s.pairs
 barred : Sl RPair 2 F w a3 l3 s.barred
 chairs : Sl RStr 1 F w a4 l4 s.chairs
 n0 : l0≤1000
 n1 : l1≤1000
 n2 : l2≤1000000
 n3 : l3≤1000000
 n4 : l4≤1000000
section
variable {F : Nat→Prop} {w w' : World} {a0 a1 a2 a3 a4 : Option Addr} {l0 l1 l2 l3 l4 : Nat} {s : Set7}
theorem SetIs.keep (h : SetIs F w a0 l0 a1 l1 a2 l2 a3 l3 a4 l4 s) (k : Kept F w w') : SetIs F w' a0 l0 a1 l1 a2 l2 a3 l3 a4 l4 s :=
 ⟨h.sheet.keep RQst.ok k,h.papers.keep RPap.ok k,h.pairs.keep RPair.ok k,h.barred.keep RPair.ok k,h.chairs.keep RStr.ok k,h.n0,h.n1,h.n2,h.n3,h.n4⟩
theorem SetIs.mono {G : Nat→Prop} (h : SetIs F w a0 l0 a1 l1 a2 l2 a3 l3 a4 l4 s) (k : ∀ i,F i→G i) : SetIs G w a0 l0 a1 l1 a2 l2 a3 l3 a4 l4 s :=
 ⟨h.sheet.mono RQst.ok k,h.papers.mono RPap.ok k,h.pairs.mono RPair.ok k,h.barred.mono RPair.ok k,h.chairs.mono RStr.ok k,h.n0,h.n1,h.n2,h.n3,h.n4⟩
end

structure Rev where
 no : Int
 tm : Int
 paper : ByteArray
 person : ByteArray
 by_ : ByteArray
 done : Bool
 answers : List Ans4
def RevSmall (x : Rev) : Prop:=x.paper.size≤1000000∧x.person.size≤1000000∧x.by_.size≤1000000∧x.answers.length≤1000
def RRev : Rel Rev:=fun F w vs x=>∃ a c,vs = [.int .i64 x.no,.int .i64 x.tm,.string x.paper,.string x.person,.string x.by_,.bool x.done,.slice a x.answers.length c]∧RevSmall x∧Sl RAns 4 F w a x.answers.length x.answers
theorem RRev.ok : RRev.Ok:=by
 refine ⟨?_,?_,?_⟩
 ·rintro F w w' vs x hk ⟨a,c,rfl,h1,h2⟩;exact ⟨a,c,rfl,h1,h2.keep RAns.ok hk⟩
 ·rintro F G w vs x hk ⟨a,c,rfl,h1,h2⟩;exact ⟨a,c,rfl,h1,h2.mono RAns.ok hk⟩
 ·rintro F w vs x ⟨a,c,rfl,h1,h2⟩;exact ⟨a,c,rfl,h1,h2.live RAns.ok (by decide)⟩
theorem Sl.atRev {F : Nat→Prop} {w : World} {a : Option Addr} {len : Nat} {xs : List Rev} (h : Sl RRev 7 F w a len xs) {k : Nat} (hk : k < len) :
  ∃ b off x aa ac,a = some ⟨b,off,none⟩∧F b∧w.cell? ⟨b,off+k*7,none⟩ = some (.int .i64 x.no)∧w.cell? ⟨b,off+k*7+1,none⟩ = some (.int .i64 x.tm)∧w.cell? ⟨b,off+k*7+2,none⟩ = some (.string x.paper) ∧
   w.cell? ⟨b,off+k*7+3,none⟩ = some (.string x.person)∧w.cell? ⟨b,off+k*7+4,none⟩ = some (.string x.by_)∧w.cell? ⟨b,off+k*7+5,none⟩ = some (.bool x.done)∧w.cell? ⟨b,off+k*7+6,none⟩ = some (.slice aa x.answers.length ac)∧RevSmall x ∧
   Sl RAns 4 F w aa x.answers.length x.answers∧xs[k]? = some x∧xs.take (k+1) = xs.take k ++ [x]:=by
 obtain ⟨b,off,vs,x,ha,hF,h1,h2,⟨aa,ac,rfl,g1,g2⟩,h4,h5,h6⟩:=h.at hk;exact ⟨b,off,x,aa,ac,ha,hF,(h2 0 (by simp)).trans rfl,(h2 1 (by simp)).trans rfl,(h2 2 (by simp)).trans rfl,(h2 3 (by simp)).trans rfl,(h2 4 (by simp)).trans rfl,(h2 5 (by simp)).trans rfl,(h2 6 (by simp)).trans rfl,g1,g2,h4,h6⟩

def backB (prev : Option Rev) (t : Int) : Bool:=match prev with | none=>false | some q=>decide (t < q.tm)
noncomputable def revF (s : Set7) (no : Nat) (prev : Option Rev) (r : Rev) : Int :=
 if r.no≠no∨¬ (0≤r.tm∧r.tm < 5761440) then 1
 else if backB prev r.tm = true then 7
 else if inP s.pairs r.paper r.person = false then 8
 else if r.by_.size≠0∧isKeyB r.by_ = false then 5
 else if r.by_ = r.person then 14
 else if answersF s.sheet r.answers≠0 then answersF s.sheet r.answers
 else if r.done = true∧0 < (missF s.sheet r.answers).length then 3 else 0
section
variable {s : Set7} {no : Nat} {prev : Option Rev} {r : Rev}
theorem revF_arg (h : r.no≠no∨¬ (0≤r.tm∧r.tm < 5761440)) : revF s no prev r = 1:=by rw [revF,if_pos h]
theorem revF_order (h1 : r.no = no) (h2 : 0≤r.tm∧r.tm < 5761440) (h3 : backB prev r.tm = true) : revF s no prev r = 7:=by rw [revF,if_neg (by simp [h1,h2]),if_pos h3]
theorem revF_none (h1 : r.no = no) (h2 : 0≤r.tm∧r.tm < 5761440) (h3 : backB prev r.tm = false) (h4 : inP s.pairs r.paper r.person = false) : revF s no prev r = 8:=by rw [revF,if_neg (by simp [h1,h2]),if_neg (by simp [h3]),if_pos h4]
theorem revF_name (h1 : r.no = no) (h2 : 0≤r.tm∧r.tm < 5761440) (h3 : backB prev r.tm = false) (h4 : inP s.pairs r.paper r.person = true) (h5 : r.by_.size≠0∧isKeyB r.by_ = false) : revF s no prev r = 5:=by rw [revF,if_neg (by simp [h1,h2]),if_neg (by simp [h3]),if_neg (by simp [h4]),if_pos h5]
theorem revF_ok (h1 : r.no = no) (h2 : 0≤r.tm∧r.tm < 5761440) (h3 : backB prev r.tm = false) (h4 : inP s.pairs r.paper r.person = true) (h5 : ¬ (r.by_.size≠0∧isKeyB r.by_ = false)) :
  revF s no prev r = if r.by_ = r.person then 14 else if answersF s.sheet r.answers≠0 then answersF s.sheet r.answers else if r.done = true∧0 < (missF s.sheet r.answers).length then 3 else 0:=by
 rw [revF,if_neg (by simp [h1,h2]),if_neg (by simp [h3]),if_neg (by simp [h4]),if_neg h5]
end
noncomputable def revsG (s : Set7) : Nat→Option Rev→List Rev→Int
 | _,_,[]=>0
 | no,prev,r :: l=>if revF s no prev r≠0 then revF s no prev r else revsG s (no+1) (some r) l
theorem revsG_cons (s : Set7) (no : Nat) (prev : Option Rev) (r : Rev) (l : List Rev) : revsG s no prev (r :: l) = if revF s no prev r≠0 then revF s no prev r else revsG s (no+1) (some r) l:=rfl
noncomputable def revsF (s : Set7) (l : List Rev) : Int:=if setupF s≠0 then setupF s else if 3000 < l.length then 2 else revsG s 1 none l
theorem revsF_setup {s : Set7} {l : List Rev} (h : setupF s≠0) : revsF s l = setupF s:=by rw [revsF,if_pos h]
theorem revsF_large {s : Set7} {l : List Rev} (h : setupF s = 0) (h2 : 3000 < l.length) : revsF s l = 2:=by rw [revsF,if_neg (by simp [h]),if_pos h2]
theorem revsF_some {s : Set7} {l : List Rev} (h : setupF s = 0) (h2 : ¬ 3000 < l.length) : revsF s l = revsG s 1 none l:=by rw [revsF,if_neg (by simp [h]),if_neg h2]
def RevAt (s : Set7) (xs : List Rev) (k : Nat) : Prop:=revsG s 1 none xs = revsG s (k+1) (xs.take k).getLast? (xs.drop k)
section
variable {s : Set7} {xs : List Rev} {k : Nat} {r : Rev}
theorem RevAt.zero (s : Set7) (xs : List Rev) : RevAt s xs 0:=by simp [RevAt]
theorem RevAt.bad {e : Int} (h : RevAt s xs k) (hr : xs[k]? = some r) (hb : revF s (k+1) (xs.take k).getLast? r = e) (he : e≠0) : revsG s 1 none xs = e:=by
 rw [h,drop_at hr,revsG_cons,hb,if_pos he]
theorem RevAt.next (h : RevAt s xs k) (hr : xs[k]? = some r) (hb : revF s (k+1) (xs.take k).getLast? r = 0) : RevAt s xs (k+1):=by
 unfold RevAt at *;rw [h,drop_at hr,revsG_cons,hb,if_neg (by simp),last_take hr]
theorem RevAt.ok (h : RevAt s xs k) (hk : xs.length≤k) : revsG s 1 none xs = 0:=by
 rw [h,List.drop_of_length_le hk]; rfl
end
end Go.Proofs.YtjbaijgdkkccbaaGreatDoor

/- Rows that hold strings lie apart from blocks that hold none. No program in sight. -/
namespace Go.Proofs.YtjbaijgdkkccbaaGreatDoor
open Go.RowKit

def NoStr (w : World) (b : Nat) : Prop:=∀ i s,w.cell? ⟨b,i,none⟩≠some (.string s)
theorem NoStr.of {w : World} {b : Nat} {c : Array Value} {t : TypeId} {fz : Nat × Nat} (h : w.heap[b]? = some (.cells c t fz)) (hc : ∀ v ∈ c.toList,∀ s,v≠.string s) : NoStr w b:=by
 intro i s e;simp only [World.cell?,h] at e;exact hc _ (List.mem_of_getElem? (by rw [Array.getElem?_toList]; exact e)) s rfl
structure Rel.Off {α : Type} (R : Rel α) : Prop where
 off : ∀ {F : Nat→Prop} {w : World} {vs : List Value} {x : α} {b : Nat},NoStr w b→R F w vs x→R (fun k=>F k∧k≠b) w vs x
 str : ∀ {F : Nat→Prop} {w : World} {vs : List Value} {x : α},R F w vs x→∃ (j : Nat) (s : ByteArray),vs[j]? = some (.string s)
theorem Sl.off {α : Type} {R : Rel α} (ok : R.Off) {sz : Nat} {F : Nat→Prop} {w : World} {a : Option Addr} {len : Nat} {xs : List α} {b : Nat} (h : Sl R sz F w a len xs) (hn : NoStr w b) : Sl R sz (fun k=>F k∧k≠b) w a len xs:=by
 refine ⟨h.1,fun hl=>?_⟩;obtain ⟨b0,off,ha,hF,hc⟩:=h.2 hl;have hb : b0≠b:=by
  obtain ⟨vs,h1,h2,h3⟩:=hc 0 (by have:=h.1; omega);obtain ⟨j,s,hj⟩:=ok.str h3;obtain ⟨hjl,hjs⟩:=List.getElem?_eq_some_iff.1 hj;have:=h2 j hjl;rw [hjs] at this;intro e;subst e;exact hn _ _ this
 refine ⟨b0,off,ha,⟨hF,hb⟩,fun i hi=>?_⟩;obtain ⟨vs,h1,h2,h3⟩:=hc i hi;exact ⟨vs,h1,h2,ok.off hn h3⟩
theorem RStr.isOff : RStr.Off:=⟨fun _ h=>h,fun {_ _ vs x} h=>⟨0,x,by rw [show vs = _ from h.1]; rfl⟩⟩
theorem RAns.isOff : RAns.Off:=⟨fun _ h=>h,fun {_ _ vs x} h=>⟨0,x.question,by rw [show vs = _ from h.1]; rfl⟩⟩
theorem RPair.isOff : RPair.Off:=⟨fun _ h=>h,fun {_ _ vs x} h=>⟨0,x.paper,by rw [show vs = encP x from h]; rfl⟩⟩
theorem RQst.isOff : RQst.Off:=by
 refine ⟨?_,?_⟩
 ·rintro F w vs x b hn ⟨a,c,rfl,h1,h2,h3⟩;exact ⟨a,c,rfl,h1,h2,h3.off RStr.isOff hn⟩
 ·rintro F w vs x ⟨a,c,rfl,h1,h2,h3⟩;exact ⟨0,_,rfl⟩
theorem RPap.isOff : RPap.Off:=by
 refine ⟨?_,?_⟩
 ·rintro F w vs x b hn ⟨aa,ac,ta,tc,rfl,h0,h1,h2,h3,h4⟩;exact ⟨aa,ac,ta,tc,rfl,h0,h1,h2,h3.off RStr.isOff hn,h4.off RStr.isOff hn⟩
 ·rintro F w vs x ⟨aa,ac,ta,tc,rfl,h0,h1,h2,h3,h4⟩;exact ⟨0,_,rfl⟩
theorem RRev.isOff : RRev.Off:=by
 refine ⟨?_,?_⟩
 ·rintro F w vs x b hn ⟨a,c,rfl,h1,h2⟩;exact ⟨a,c,rfl,h1,h2.off RAns.isOff hn⟩
 ·rintro F w vs x ⟨a,c,rfl,h1,h2⟩;exact ⟨2,_,rfl⟩
theorem Sl.past {α : Type} {R : Rel α} (off : R.Off) (ok : R.Ok) {sz : Nat} {F : Nat→Prop} {w w' : World} {a : Option Addr} {len : Nat} {xs : List α} {b : Nat} (h : Sl R sz F w a len xs) (hn : NoStr w b) (hk : Kept (fun k=>k≠b) w w') : Sl R sz F w' a len xs :=
 ((h.off off hn).keep ok (hk.mono fun _ h=>h.2)).mono ok fun _ h=>h.1
theorem SetIs.past {F : Nat→Prop} {w w' : World} {a0 a1 a2 a3 a4 : Option Addr} {l0 l1 l2 l3 l4 : Nat} {s : Set7} {b : Nat} (h : SetIs F w a0 l0 a1 l1 a2 l2 a3 l3 a4 l4 s) (hn : NoStr w b) (hk : Kept (fun k=>k≠b) w w') : SetIs F w' a0 l0 a1 l1 a2 l2 a3 l3 a4 l4 s :=
 ⟨h.sheet.past RQst.isOff RQst.ok hn hk,h.papers.past RPap.isOff RPap.ok hn hk,h.pairs.past RPair.isOff RPair.ok hn hk,h.barred.past RPair.isOff RPair.ok hn hk,h.chairs.past RStr.isOff RStr.ok hn hk,h.n0,h.n1,h.n2,h.n3,h.n4⟩
theorem Acc.past {α : Type} {R : Rel α} (off : R.Off) (ok : R.Ok) {sz : Nat} {T : TypeId} {F : Nat→Prop} {B : Nat} {w w' : World} {v : Value} {xs : List α} {b : Nat} (h : Acc R sz T F B w v xs) (hn : NoStr w b) (hb : ∀ k,v.ownBlock = some k→k≠b) (hk : Kept (fun k=>k≠b) w w') : Acc R sz T F B w' v xs:=by
 obtain ⟨cells,ho,he⟩:=h;refine ⟨cells,ownsRow_kept ho hk hb,fun i hi=>?_⟩;exact ok.mono (fun k hk=>hk.1) (ok.keep (hk.mono fun _ h=>h.2) (off.off hn (he i hi)))
end Go.Proofs.YtjbaijgdkkccbaaGreatDoor

/- A region that draws its order, without guards: what holds throughout may speak of the temporaries. Reviews cloned and appended to inside such a region. -/
namespace Go.Proofs.YtjbaijgdkkccbaaGreatDoor
open Go.RowKit

theorem wp_region_invA {P : Program} {ops : Array Oper} {Q : Exit→Act→World→Prop} {id : Nat} {a0 : Act} {w0 : World} (z : Nat) (hm : P.follows .mixedOrders = true) (hform : (formOk ops z a0.tmps.size && plainOk ops z) = true) (hall : (List.range z).all (fun i=>(dstAt ops i).isSome) = true)
  (G : Nat→(Nat→Bool)→Act→World→Prop) (D : Nat→Value→World→Prop) (M : Nat→World→World→Prop) (hM : ∀ i j v w w',i < z→j < z→i≠j→j ∉ depsOf ops i→M j w w'→D i v w→D i v w') (hG : G 0 (fun _=>false) a0 w0.drew)
  (hstep : ∀ i o t,ops[i]? = some o→o.dst = some t→i < z→∀ k L a w,k < z→G k L a w→L i = false→a.defers = a0.defers→t < a.tmps.size→a.tmps.size = a0.tmps.size→(∀ t,t ∉ dsts ops z→a.tmps[t]? = a0.tmps[t]?)→(∀ j ∈ depsOf ops i,L j = true) →
   (∀ j ∈ depsOf ops i,∀ t,dstAt ops j = some t→D j (a.tmps.getD t undef) w)→o.wp P a w (fun a' w'=>∃ v,a' = a.put (some t) v∧G (k+1) (fun j=>if j = i then true else L j) (a.put (some t) v) w'∧M i w w'∧D i v w') Q)
  (hlast : ∀ w (f : Tmp→Value),(∃ a L,G z L a w)→(∀ i t,i < z→dstAt ops i = some t→D i (f t) w)→WPL P ops Q (ops.toList.drop z) (puts a0 ((dsts ops z).map fun t=>(t,f t))) w) :
  (Code.region id ops true).wp P Q a0 w0:=by
 obtain ⟨hfo,hpl⟩:=Bool.and_eq_true_iff.1 hform;have hf:=FormIs.of hfo;refine wp_region_fullL z hm hfo G (fun i a w=>∀ t,dstAt ops i = some t→D i (a.tmps.getD t undef) w) (fun i _ _ w w'=>M i w w') (fun i j _ _ a w v w' hi hj hij hnd _ hmm hd t ht=>?_) hG (fun i o ho hi k L a w hk hg hLi h1 h2 h3 hLd h4=>?_) (fun w a L hg _ hd=>(hlast w (fun t=>a.tmps.getD t undef) ⟨a,L,hg⟩ (fun i t hi ht=>hd i hi t ht)).out)
 ·(have et : dstAt ops j≠some t:=fun e=>(hf.dst i t hi ht).2 j hj (Ne.symm hij) e);rw [put_at v et];exact hM _ _ _ _ _ hi hj hij hnd hmm (hd t ht)
 ·(have hdi : dstAt ops i = o.dst:=by simp [dstAt,ho]);obtain ⟨t,ht⟩ : ∃ t,o.dst = some t:=by
   have:=List.all_eq_true.1 hall i (List.mem_range.2 hi);rw [hdi] at this;exact Option.isSome_iff_exists.1 this
  have hta:=(hf.dst i t hi (by rw [hdi,ht])).1;rw [if_pos (by simp [Region.wanted,plainOk.guard hpl hi ho])];refine Oper.wp_mono ?_ (hstep i o t ho ht hi k L a w hk hg hLi h1 (by rw [h2]; exact hta) h2 h3 hLd (fun j hj s hs=>h4 j hj s hs));rintro a' w' ⟨v,rfl,hg',hm',hd'⟩;refine ⟨v,by rw [ht],by rw [ht]; exact hg',hm',fun s hs=>?_⟩;rw [hdi,ht] at hs;obtain rfl:=Option.some.inj hs;(have e : ((a.put o.dst v).tmps.getD t undef) = v:=by rw [ht]; simp [Act.put,Array.getD_eq_getD_getElem?,h2,hta]);rw [e]; exact hd'

theorem QIs.staysB (u : Value) (s : Nat) : Stays (But s) (QIs u):=fun _ _ _ _ h=>h
def QBool (v : Value) (_ : World) : Prop:=∃ r : Bool,v = .bool r
theorem QBool.staysB (s : Nat) : Stays (But s) QBool:=fun _ _ _ _ h=>h
def QRowB (s : Nat) (cs : Array Value) (T : TypeId) (v : Value) (w : World) : Prop:=∃ b,v = .slice (some ⟨b,0,none⟩) 1 1∧b≠s∧w.heap[b]? = some (.cells cs T (0,0))
theorem QRowB.stays (s : Nat) (cs : Array Value) (T : TypeId) : Stays (But s) (QRowB s cs T):=fun _ _ _ k ⟨b,h1,h2,h3⟩=>⟨b,h1,h2,k.heap h3 h2⟩
def QHdr (n : Nat) (v : Value) (_ : World) : Prop:=∃ p c,v = .slice p n c
theorem QHdr.staysB (n s : Nat) : Stays (But s) (QHdr n):=fun _ _ _ _ h=>h
def QHd1 (v : Value) (_ : World) : Prop:=∃ b,v = .slice (some ⟨b,0,none⟩) 1 1
theorem QHd1.staysB (s : Nat) : Stays (But s) QHd1:=fun _ _ _ _ h=>h
def QAccF (s : Nat) (wA : World) (xs : List Rev) (v : Value) (w : World) : Prop:=∃ p c,v = .slice p xs.length c∧Acc RRev 7 73 (fun k=>k≠s∧k < wA.heap.size) wA.heap.size w (.slice p xs.length c) xs
theorem QAccF.staysB (s : Nat) (wA : World) (xs : List Rev) (h : s < wA.heap.size) : Stays (But s) (QAccF s wA xs) :=
 fun _ _ _ k ⟨p,c,h1,h2⟩=>⟨p,c,h1,h2.keep RRev.ok k (fun _ h=>h.1) (fun j hj=>by have:=(h2.lt j hj).1; omega)⟩
def GPR (σ : St) (n4 : Nat) (wA : World) (xs : List Rev) (cs : Array Value) (ic sc ir sr ia : Nat) (k : Nat) (L : Nat→Bool) (a : Act) (w : World) : Prop :=
 (∃ n',Str σ w n'∧n4≤n'∧n'≤n4+k∧But σ.b wA w)∧(L ia = false→L ic = true→a.tmps.getD sc undef = undef∨QAccF σ.b wA xs (a.tmps.getD sc undef) w)∧(L ia = false→L ir = true→a.tmps.getD sr undef = undef∨QRowB σ.b cs 73 (a.tmps.getD sr undef) w)
theorem GPR.step {σ : St} {n4 : Nat} {wA : World} {xs : List Rev} {cs : Array Value} {ic sc ir sr ia k : Nat} {L : Nat→Bool} {a : Act} {w : World} (h : GPR σ n4 wA xs cs ic sc ir sr ia k L a w) (i t : Nat) (v : Value) (w' : World) (hl : σ.b < wA.heap.size) (ht : t < a.tmps.size) (hb : i≠ia→But σ.b w w')
  (hn : ∃ n',Str σ w' n'∧n4≤n'∧n'≤n4+(k+1)∧But σ.b wA w') (h5 : i≠ia→t = sc→v = undef∨QAccF σ.b wA xs v w') (h7 : i≠ia→t = sr→v = undef∨QRowB σ.b cs 73 v w') (h5' : i = ic→t = sc) (h7' : i = ir→t = sr) :
  GPR σ n4 wA xs cs ic sc ir sr ia (k+1) (fun j=>if j = i then true else L j) (a.put (some t) v) w':=by
 (have same : (a.put (some t) v).tmps.getD t undef = v:=by simp [Act.put,Array.getD_eq_getD_getElem?,ht]);obtain ⟨-,g5,g7⟩:=h;refine ⟨hn,fun e8 e5=>?_,fun e8 e7=>?_⟩
 ·replace e8 : (if ia = i then true else L ia) = false:=e8;replace e5 : (if ic = i then true else L ic) = true:=e5;by_cases hi8 : ia = i
  ·rw [if_pos hi8] at e8; cases e8
  ·rw [if_neg hi8] at e8;by_cases h77 : t = sc
   ·subst h77; rw [same]; exact h5 (fun h=>hi8 h.symm) rfl
   ·rw [put_other v h77];rw [if_neg (fun h=>h77 (h5' h.symm))] at e5;exact (g5 e8 e5).imp (fun h=>h) (QAccF.staysB σ.b wA xs hl _ _ _ (hb (fun h=>hi8 h.symm)))
 ·replace e8 : (if ia = i then true else L ia) = false:=e8;replace e7 : (if ir = i then true else L ir) = true:=e7;by_cases hi8 : ia = i
  ·rw [if_pos hi8] at e8; cases e8
  ·rw [if_neg hi8] at e8;by_cases h79 : t = sr
   ·subst h79; rw [same]; exact h7 (fun h=>hi8 h.symm) rfl
   ·rw [put_other v h79];rw [if_neg (fun h=>h79 (h7' h.symm))] at e7;exact (g7 e8 e7).imp (fun h=>h) (QRowB.stays σ.b cs 73 _ _ _ (hb (fun h=>hi8 h.symm)))
end Go.Proofs.YtjbaijgdkkccbaaGreatDoor
