/- Pairs are compared: cmp.Compare and slices.Compare of strings, ComparePairs, PairOrder. -/
import Derived.Test.YtjbaijgdkkccbaaGreatDoorRa
import Derived.Test.YtjbaijgdkkccbaaGreatDoorZc
import Derived.Test.YtjbaijgdkkccbaaGreatDoorSj
import Derived.Sort.Grow
import Derived.Sort.OwnSorted
import Derived.Shelf.SlSortCmp.Insertion
namespace Go.Proofs.YtjbaijgdkkccbaaGreatDoor
open Go.RowKit

theorem cmp_vals : ∀ (a b : List UInt8),Lib.compareBytes a b = -1∨Lib.compareBytes a b = 0∨Lib.compareBytes a b = 1
 | [],[]=>by simp [Lib.compareBytes]
 | [],_ :: _=>by simp [Lib.compareBytes]
 | _ :: _,[]=>by simp [Lib.compareBytes]
 | x :: a,y :: b=>by
  simp only [Lib.compareBytes];split
  ·simp
  ·split
   ·simp
   ·exact cmp_vals a b
theorem cmp_swap : ∀ (a b : List UInt8),Lib.compareBytes b a = - Lib.compareBytes a b
 | [],[]=>by simp [Lib.compareBytes]
 | [],_ :: _=>by simp [Lib.compareBytes]
 | _ :: _,[]=>by simp [Lib.compareBytes]
 | x :: a,y :: b=>by
  simp only [Lib.compareBytes];by_cases h1 : x < y
  ·(have h2 : ¬ y < x:=by rw [UInt8.lt_iff_toNat_lt] at *; omega);simp [h1,h2]
  ·by_cases h2 : y < x
   ·simp [h1,h2]
   ·simp [h1,h2,cmp_swap a b]
theorem cmp_lt {a b : ByteArray} (h : Op.bytesLess a.toList b.toList = true) : Lib.compareBytes a.data.toList b.data.toList = -1:=by
 rw [tl_data,tl_data] at h;have:=(cmp_neg a.data.toList b.data.toList).2 h;have:=cmp_vals a.data.toList b.data.toList;omega
theorem cmp_gt {a b : ByteArray} (h : Op.bytesLess b.toList a.toList = true) : Lib.compareBytes a.data.toList b.data.toList = 1:=by
 have:=cmp_lt h;rw [cmp_swap,this]; rfl
theorem cmp_eq {a b : ByteArray} (h1 : Op.bytesLess a.toList b.toList = false) (h2 : Op.bytesLess b.toList a.toList = false) : Lib.compareBytes a.data.toList b.data.toList = 0:=by
 rw [cmp_zero,← tl_data,← tl_data];apply Classical.byContradiction
 intro hn;rw [bl_total h1 hn] at h2
 cases h2

theorem isNaN_any (x : ByteArray) (w : World) : Calls Tryz.prog 313 #[.string x] w fun e w'=>e = .returned (.bool false)∧w = w':=by
 (have h : (x.toList != x.toList) = false:=by simp);(go_enter Tryz.func313,Tryz.ntmps313);(go_wp2);go_ret;exact ⟨by simp,rfl⟩
theorem cmpStr_any (a b : ByteArray) (w : World) : Calls Tryz.prog 246 #[.string a,.string b] w fun e w'=>e = .returned (.int .i64 (Lib.compareBytes a.data.toList b.data.toList))∧w = w':=by
 cases h1 : Op.bytesLess a.toList b.toList
 ·cases h2 : Op.bytesLess b.toList a.toList
  ·have he:=Lib.hid (cmp_eq h1 h2);have heq : (a.toList == b.toList) = true:=by
    have:=(cmp_zero _ _).1 he.out;rw [tl_data,tl_data,this]; simp
   (go_enter Tryz.func246,Tryz.ntmps246);(go_wp2_with fail);refine (isNaN_any _ _).mono ?_;rintro e w' ⟨rfl,rfl⟩;(go_wp2_with fail);refine (isNaN_any _ _).mono ?_;rintro e w' ⟨rfl,rfl⟩;(go_wp2_with fail);go_ret;exact ⟨ret_int' he.out.symm,rfl⟩
  ·have he:=Lib.hid (cmp_gt h2);have heq : (a.toList == b.toList) = false:=by
    rw [beq_eq_false_iff_ne];intro e;rw [e,bl_irrefl] at h2
    cases h2
   (go_enter Tryz.func246,Tryz.ntmps246);(go_wp2_with fail);refine (isNaN_any _ _).mono ?_;rintro e w' ⟨rfl,rfl⟩;(go_wp2_with fail);refine (isNaN_any _ _).mono ?_;rintro e w' ⟨rfl,rfl⟩;(go_wp2_with fail);go_ret;exact ⟨ret_int' he.out.symm,rfl⟩
 ·have he:=Lib.hid (cmp_lt h1);(go_enter Tryz.func246,Tryz.ntmps246);(go_wp2_with fail);refine (isNaN_any _ _).mono ?_;rintro e w' ⟨rfl,rfl⟩;(go_wp2_with fail);refine (isNaN_any _ _).mono ?_;rintro e w' ⟨rfl,rfl⟩;(go_wp2_with fail);go_ret;exact ⟨ret_int' he.out.symm,rfl⟩

def cmpS : List ByteArray→List ByteArray→Int
 | [],[]=>0
 | [],_ :: _=>-1
 | _ :: _,[]=>1
 | a :: l,b :: k=>if Lib.compareBytes a.data.toList b.data.toList≠0 then Lib.compareBytes a.data.toList b.data.toList else cmpS l k
theorem cmpS_pair (a1 a2 b1 b2 : ByteArray) : cmpS [a1,a2] [b1,b2] = cmpP a1 a2 b1 b2:=by
 simp only [cmpS,cmpP];split
 ·rfl
 ·split
  ·rfl
  ·rename_i h; exact (Decidable.of_not_not h).symm
set_option maxHeartbeats 800000 in
theorem compareS_any (a1 : Option Addr) (n c1 : Nat) (a2 : Option Addr) (c2 : Nat) (ss ts : List ByteArray) (w : World) (hs : Sl RStr 1 (fun _=>True) w a1 n ss) (ht : Sl RStr 1 (fun _=>True) w a2 n ts) (hl : n≤1000000) :
  Calls Tryz.prog 169 #[.slice a1 n c1,.slice a2 n c2] w fun e w'=>e = .returned (.int .i64 (cmpS ss ts))∧w = w':=by
 have Hs:=Lib.hid hs.len;have Ht:=Lib.hid ht.len;(go_enter Tryz.func169,Tryz.ntmps169);go_wp2_with fail
 go_loop [11] (fun i=>∃ k : Nat,k≤n∧i = .int .i64 k∧cmpS ss ts = cmpS (ss.drop k) (ts.drop k)) (fun i=>n - (intOf i).toNat)
 case atStart=>exact ⟨0,Nat.zero_le _,rfl,by simp⟩
 case round =>
  obtain ⟨k,hk,rfl,hat⟩:=hrel;have HA:=Lib.hid hat
  clear hat
  by_cases hlt : k < n
  ·obtain ⟨b1,o1,y1,ha1,-,cy1,-,hy1,-,-⟩:=hs.atStr hlt;obtain ⟨b2,o2,y2,ha2,-,cy2,-,hy2,-,-⟩:=ht.atStr hlt;subst ha1;subst ha2;(have hge : decide ((n : Int)≤(k : Int)) = false:=by simp; omega);have HY:=Lib.hid (And.intro hy1 hy2);clear hy1 hy2;by_cases h0 : Lib.compareBytes y1.data.toList y2.data.toList = 0
   ·have hn:=Lib.hid (show cmpS ss ts = cmpS (ss.drop (k+1)) (ts.drop (k+1)) by rw [HA.out,drop_at HY.out.1,drop_at HY.out.2,cmpS,if_neg (by simp [h0])]);(go_wp2_with fail);refine (cmpStr_any _ _ _).mono ?_;rintro e w' ⟨rfl,rfl⟩;rw [h0];clear h0;go_wp2_with fail
    go_round
    case rel=>exact ⟨k+1,by omega,by go_num,hn.out⟩
    case measure=>simp [intOf]; omega
   ·have hn:=Lib.hid (show cmpS ss ts = Lib.compareBytes y1.data.toList y2.data.toList by rw [HA.out,drop_at HY.out.1,drop_at HY.out.2,cmpS,if_pos h0]);(have hne : (Lib.compareBytes y1.data.toList y2.data.toList != 0) = true:=by simpa using h0);(go_wp2_with fail);refine (cmpStr_any _ _ _).mono ?_;rintro e w' ⟨rfl,rfl⟩;clear h0;(go_wp2_with fail);go_ret;exact ⟨ret_int' hn.out.symm,rfl⟩
  ·(have hd : decide ((k : Int) < (n : Int)) = false:=by simp; omega);have hn:=Lib.hid (show cmpS ss ts = 0 by rw [HA.out,List.drop_of_length_le (by have:=Hs.out; omega),List.drop_of_length_le (by have:=Ht.out; omega)]; rfl);(go_wp2_with fail);go_ret;exact ⟨ret_int' hn.out.symm,rfl⟩

theorem Sl.lit_strs' {F : Nat→Prop} {w' : World} {t : TypeId} {fz : Nat × Nat} {b : Nat} {c : Array Value} (ss : List ByteArray) (hb : w'.heap[b]? = some (.cells c t fz)) (hc : c = (ss.map Value.string).toArray) (hF : F b) (hz : ∀ s ∈ ss,s.size≤1000000) :
  Sl RStr 1 F w' (some ⟨b,0,none⟩) ss.length ss:=by
 refine Sl.of_strs rfl hF (fun i hi=>?_) hz;simp [World.cell?,hb,hc,List.getElem?_eq_getElem hi]
theorem kept_grow' (w : World) (k : Nat) (os : Array Obj) : All w (Go.Sort.grow (w.drewN k) os) :=
 ⟨rfl,rfl,rfl,by simp [Go.Sort.grow,World.drewN],fun i hi _=>by
  simp only [Go.Sort.grow,World.drewN];rw [Array.getElem?_append_left hi]⟩
theorem pairOrder_grow (a1 a2 b1 b2 : ByteArray) (w : World) (h1 : a1.size≤1000000) (h2 : a2.size≤1000000) (h3 : b1.size≤1000000) (h4 : b2.size≤1000000) :
  Calls Tryz.prog 141 #[.agg #[.string a1,.string a2],.agg #[.string b1,.string b2]] w fun e w'=>e = .returned (.int .i64 (cmpP a1 a2 b1 b2))∧∃ q os,w' = Go.Sort.grow (w.drewN q) os:=by
 (go_enter Tryz.func141,Tryz.ntmps141);(go_wp2_with fail);refine (compareS_any _ 2 _ _ _ [a1,a2] [b1,b2] _ (Sl.lit_strs' [a1,a2] (heap_old _ (heap_at _ _ _ (by simp))) rfl trivial (by simp; omega)) (Sl.lit_strs' [b1,b2] (heap_at _ _ _ (by simp)) rfl trivial (by simp; omega)) (by omega)).mono ?_;rintro e w' ⟨rfl,rfl⟩;rw [cmpS_pair];(go_wp2_with fail);go_ret;exact ⟨rfl,0,_,by rw [Go.Sort.alloc_eq_grow,Go.Sort.alloc_eq_grow,Go.Sort.alloc_eq_grow,Go.Sort.alloc_eq_grow,Go.Sort.grow_grow,Go.Sort.grow_grow,Go.Sort.grow_grow]; rfl⟩
theorem pairOrder_any (a1 a2 b1 b2 : ByteArray) (w : World) (h1 : a1.size≤1000000) (h2 : a2.size≤1000000) (h3 : b1.size≤1000000) (h4 : b2.size≤1000000) :
  Calls Tryz.prog 141 #[.agg #[.string a1,.string a2],.agg #[.string b1,.string b2]] w fun e w'=>e = .returned (.int .i64 (cmpP a1 a2 b1 b2))∧All w w':=by
 refine (pairOrder_grow a1 a2 b1 b2 w h1 h2 h3 h4).mono ?_;rintro e w' ⟨rfl,q,os,rfl⟩;exact ⟨rfl,kept_grow' _ _ _⟩
theorem comparePairs_any (a1 a2 b1 b2 : ByteArray) (w : World) :
  Calls Tryz.prog 152 #[.agg #[.string a1,.string a2],.agg #[.string b1,.string b2]] w fun e w'=>e = .returned (.int .i64 (cmpP a1 a2 b1 b2))∧All w w':=by
 by_cases h0 : Lib.compareBytes a1.data.toList b1.data.toList = 0
 ·have he:=Lib.hid (show cmpP a1 a2 b1 b2 = Lib.compareBytes a2.data.toList b2.data.toList by rw [cmpP,if_neg (by simp [h0])]);(go_enter Tryz.func152,Tryz.ntmps152);(go_wp2_with fail);refine (Tryz.strings_Compare _ _ _).mono ?_;rintro e w' ⟨rfl,rfl⟩;rw [h0];clear h0;(go_wp2_with fail);refine (Tryz.strings_Compare _ _ _).mono ?_;rintro e w' ⟨rfl,rfl⟩;(go_wp2_with fail);go_ret;exact ⟨ret_int' he.out.symm,((Kept.refl _ _).then_alloc _).then_alloc _⟩
 ·have he:=Lib.hid (show cmpP a1 a2 b1 b2 = Lib.compareBytes a1.data.toList b1.data.toList by rw [cmpP,if_pos h0]);(have hne : (Lib.compareBytes a1.data.toList b1.data.toList != 0) = true:=by simpa using h0);clear h0;(go_enter Tryz.func152,Tryz.ntmps152);(go_wp2_with fail);refine (Tryz.strings_Compare _ _ _).mono ?_;rintro e w' ⟨rfl,rfl⟩;(go_wp2_with fail);go_ret;exact ⟨ret_int' he.out.symm,((Kept.refl _ _).then_alloc _).then_alloc _⟩
end Go.Proofs.YtjbaijgdkkccbaaGreatDoor

/- Pairs, and rows that were sorted: plain. No program in sight. -/
namespace Go.Proofs.YtjbaijgdkkccbaaGreatDoor
open Go.RowKit Go.Sort

section
variable {α : Type} [Inhabited α] (enc : α→Value)
theorem holdsE_of_block {w : World} {g : Nat} {cur : Array Value} {e : TypeId} {ss : List α} (hb : w.heap[g]? = some (.cells cur e (0,0))) (ht : cur.toList.take ss.length = ss.map enc) : Holds enc w g 0 ss.toArray:=by
 intro j hj;(have hj' : j < ss.length:=by simpa using hj);refine ⟨?_,by simp [World.frozen?,hb]⟩;(have h1 : (cur.toList.take ss.length)[j]? = (ss.map enc)[j]?:=by rw [ht]);rw [List.getElem?_take_of_lt hj'] at h1;simp only [World.cell?,hb,Nat.zero_add];simp only [Option.isSome_none,Bool.false_eq_true,if_false];rw [← Array.getElem?_toList,h1];simp [hj']
theorem heapE_sorted {w : World} {g n : Nat} {os : Array Obj} {cur : Array Value} {e : TypeId} {fr : Nat × Nat} (d : Array α) (hb : w.heap[g]? = some (.cells cur e fr)) :
  (grow (putRow enc (Sort.ahead w n) g 0 d) os).heap[g]? = some (.cells (putCells enc 0 d cur) e fr):=by
 have hg : g < w.heap.size:=(Array.getElem?_eq_some_iff.1 hb).1;rw [heap_grow_old _ _ (by simpa using hg)];simp [putRow,mapBlock,Sort.ahead,Array.getElem?_modify,hb,onCells]
theorem grownE_sorted {w : World} {g n : Nat} {os : Array Obj} (d : Array α) : w.grownBy (grow (putRow enc (Sort.ahead w n) g 0 d) os) (some g):=by
 refine ⟨rfl,rfl,rfl,by simp,fun k hk hne=>?_⟩;rw [heap_grow_old _ _ (by simpa using hk)];(have : g≠k:=fun e=>hne (by rw [e]));simp [putRow,mapBlock,Sort.ahead,Array.getElem?_modify,this]
theorem takeE_putCells (cur : Array Value) (ts : List α) (h : ts.length≤cur.size) : (putCells enc 0 ts.toArray cur).toList.take ts.length = ts.map enc:=by
 apply List.ext_getElem?
 intro j;by_cases hj : j < ts.length
 ·rw [List.getElem?_take_of_lt hj,Array.getElem?_toList];simp [putCells,hj,show j < cur.size by omega]
 ·rw [List.getElem?_take_eq_none (by omega),List.getElem?_eq_none (by simp; omega)]
theorem ownsRowE_sorted {w : World} {base g cap n m sz : Nat} {e : TypeId} {os : Array Obj} {cur : Array Value} {ts : List α} (hl : ts.length = m*sz) (hbase : base≤g) (hb : w.heap[g]? = some (.cells cur e (0,0)))
  (h1 : m≤cap) (h2 : cap≤maxLen) (h3 : cur.size = cap*sz) :
  (grow (putRow enc (Sort.ahead w n) g 0 ts.toArray) os).ownsRow base e sz (.slice (some ⟨g,0,none⟩) m cap) m (ts.map enc):=by
 have hle : m*sz≤cap*sz:=Nat.mul_le_mul_right _ h1;exact ⟨by simp [hl],.inr ⟨g,cap,_,rfl,hbase,heapE_sorted enc _ hb,h1,h2,by simp [putCells,h3],by rw [← hl]; exact takeE_putCells enc cur ts (by omega)⟩⟩
end

structure Pair2 where
 paper : ByteArray
 person : ByteArray
 h1 : paper.size≤1000000
 h2 : person.size≤1000000
instance : Inhabited Pair2:=⟨⟨ByteArray.empty,ByteArray.empty,by decide,by decide⟩⟩
def encP (x : Pair2) : List Value:=[.string x.paper,.string x.person]
def RPair : Rel Pair2:=fun _ _ vs x=>vs = encP x
theorem RPair.ok : RPair.Ok:=⟨fun _ h=>h,fun _ h=>h,fun h=>h⟩
theorem Sl.atPair {F : Nat→Prop} {w : World} {a : Option Addr} {len : Nat} {xs : List Pair2} (h : Sl RPair 2 F w a len xs) {k : Nat} (hk : k < len) :
  ∃ b off x,a = some ⟨b,off,none⟩∧F b∧w.cell? ⟨b,off+k*2,none⟩ = some (.string x.paper)∧w.cell? ⟨b,off+k*2+1,none⟩ = some (.string x.person)∧xs[k]? = some x∧xs = xs.take k ++ x :: xs.drop (k+1)∧xs.take (k+1) = xs.take k ++ [x]:=by
 obtain ⟨b,off,vs,x,ha,hF,h1,h2,rfl,h4,h5,h6⟩:=h.at hk;have p0:=h2 0 (Nat.succ_pos _);have p1:=h2 1 (Nat.succ_lt_succ (Nat.succ_pos _));rw [Nat.add_zero] at p0;exact ⟨b,off,x,ha,hF,p0,p1,h4,h5,h6⟩

def cfP (x y : Pair2) : Int:=cmpP x.paper x.person y.paper y.person
theorem cmp_trans {a b c : List UInt8} (h1 : Lib.compareBytes a b < 0) (h2 : Lib.compareBytes b c < 0) : Lib.compareBytes a c < 0:=by
 rw [cmp_neg] at *;exact bl_trans h1 h2
theorem cmp_ntrans {a b c : List UInt8} (h1 : ¬ Lib.compareBytes a b < 0) (h2 : ¬ Lib.compareBytes b c < 0) : ¬ Lib.compareBytes a c < 0:=by
 have s1:=cmp_swap a b;have s2:=cmp_swap b c;have s3:=cmp_swap a c;intro h;rcases cmp_vals a b with e | e | e
 ·omega
 ·have:=(cmp_zero a b).1 e;subst this;exact h2 h
 ·rcases cmp_vals b c with e' | e' | e'
  ·omega
  ·have:=(cmp_zero b c).1 e';subst this;exact h1 h
  ·have:=cmp_trans (a:=c) (b:=b) (c:=a) (by omega) (by omega);omega
theorem ltP (x y : Pair2) : ltOf cfP x y = true ↔ Lib.compareBytes x.paper.data.toList y.paper.data.toList < 0∨x.paper = y.paper∧Lib.compareBytes x.person.data.toList y.person.data.toList < 0:=by
 unfold ltOf cfP cmpP;rw [decide_eq_true_eq];by_cases h : Lib.compareBytes x.paper.data.toList y.paper.data.toList = 0
 ·have e : x.paper = y.paper:=Go.WideShapes.bytes_inj ((cmp_zero _ _).1 h);rw [if_neg (by simp [h])];constructor
  ·intro h';exact Or.inr ⟨e,h'⟩
  ·rintro (h' | ⟨-,h'⟩)
   ·omega
   ·exact h'
 ·(have e : x.paper≠y.paper:=fun e=>h (by rw [e]; exact (cmp_zero _ _).2 rfl));rw [if_pos h];simp [e]
theorem swoP : SWO (ltOf cfP) where
 irrefl x:=by
  rw [Bool.eq_false_iff];intro h;rw [ltP,(cmp_zero _ _).2 rfl,(cmp_zero _ _).2 rfl] at h;omega
 trans x y z h1 h2:=by
  rw [ltP] at *;rcases h1 with h1 | ⟨e1,h1⟩
  ·rcases h2 with h2 | ⟨e2,h2⟩
   ·exact Or.inl (cmp_trans h1 h2)
   ·rw [e2] at h1; exact Or.inl h1
  ·rcases h2 with h2 | ⟨e2,h2⟩
   ·rw [← e1] at h2; exact Or.inl h2
   ·exact Or.inr ⟨e1.trans e2,cmp_trans h1 h2⟩
 ntrans x y z h1 h2:=by
  rw [Bool.eq_false_iff] at *;intro h;rw [ne_eq,ltP] at h1 h2;rw [ltP] at h;have h1':=not_or.1 h1;have h2':=not_or.1 h2;have n1:=cmp_ntrans h1'.1 h2'.1;rcases h with h | ⟨e,h⟩
  ·exact n1 h
  ·have s1:=cmp_swap x.paper.data.toList y.paper.data.toList;have hxy : x.paper = y.paper:=by
    apply Go.WideShapes.bytes_inj
    rw [← cmp_zero];have a1:=h1'.1;have a2:=h2'.1;rw [← e,s1] at a2;omega
   have hyz : y.paper = z.paper:=hxy.symm.trans e;exact cmp_ntrans (fun hh=>h1'.2 ⟨hxy,hh⟩) (fun hh=>h2'.2 ⟨hyz,hh⟩) h
end Go.Proofs.YtjbaijgdkkccbaaGreatDoor
