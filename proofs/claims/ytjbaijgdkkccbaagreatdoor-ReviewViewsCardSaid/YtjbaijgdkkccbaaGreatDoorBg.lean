/- Maps of the call's own whose keys are strings, with whatever values; ranging over them. No program in sight. -/
import Derived.Test.YtjbaijgdkkccbaaGreatDoorZc
import Derived.Maps.OwnOps
import Derived.Maps.OwnSet
import Derived.Maps.Views
import Derived.Maps.RangeWalk
import Derived.StringKeys
import Derived.Test.YtjbaijgdkkccbaaGreatDoorBa
import Derived.Test.YtjbaijgdkkccbaaGreatDoorAo
namespace Go.Proofs.YtjbaijgdkkccbaaGreatDoor
open Go.RowKit
open Go.Maps (Keyed IsMap)

def heldR (v : Value) : Option (DataW Value × List MemPlace):=some (.held v,[])
theorem heldR_mk (v : Value) : heldR v = some (.held v,[]):=rfl

def MapS (P : Program) (k : TypeId) (w : World) (b n : Nat) (m : ByteArray→Option Value) : Prop :=
 ∃ D : DataW Value,w.ownsMap P k heldR b n D∧∀ s : ByteArray,Maps.has D (.string s.data.toList) = (m s).isSome∧∀ z,D.atKey (.string s.data.toList) (.held z) = .held ((m s).getD z)
def putS (m : ByteArray→Option Value) (s : ByteArray) (v : Value) : ByteArray→Option Value:=fun x=>if x = s then some v else m x
theorem putS_same (m : ByteArray→Option Value) (s : ByteArray) (v : Value) : putS m s v s = some v:=by simp [putS]
theorem putS_other {m : ByteArray→Option Value} {s x : ByteArray} {v : Value} (h : x≠s) : putS m s v x = m x:=by simp [putS,h]

section
variable {P : Program} {k e t : TypeId} {w w' : World} {b n : Nat} {m : ByteArray→Option Value}

theorem MapS.made (P : Program) (k : TypeId) (w : World) : MapS P k (w.alloc (.map #[] 0)) w.heap.size 0 (fun _=>none) :=
 ⟨.map [],World.ownsMap_made _ _ _ _,fun _=>⟨rfl,fun _=>rfl⟩⟩
theorem MapS.lt (h : MapS P k w b n m) : b < w.heap.size:=by
 obtain ⟨D,h1,_⟩:=h;exact h1.lt
theorem MapS.blk (h : MapS P k w b n m) : ∃ es clock,w.heap[b]? = some (.map es clock):=by
 obtain ⟨D,⟨es,clock,hb,_⟩,_⟩:=h;exact ⟨es,clock,hb⟩
theorem MapS.keep {F : Nat→Prop} (h : MapS P k w b n m) (hk : Kept F w w') (hF : F b) : MapS P k w' b n m:=by
 have hl:=h.lt;obtain ⟨D,⟨es,clock,hb,F',hs,hD⟩,h3⟩:=h;exact ⟨D,⟨es,clock,(hk.block b hl hF).trans hb,F',hs,hD⟩,h3⟩
theorem MapS.up {n' : Nat} (h : MapS P k w b n m) (hn : n≤n') : MapS P k w b n' m:=by
 obtain ⟨D,h1,h3⟩:=h;exact ⟨D,h1.mono hn,h3⟩
theorem MapS.congr {m' : ByteArray→Option Value} (h : MapS P k w b n m) (hm : ∀ s,m s = m' s) : MapS P k w b n m':=by
 have : m = m':=funext hm;rw [← this]; exact h
theorem MapS.look (h : MapS P k w b n m) (hk : P.underlying k = some .string) (ht : P.underlying t = some (.map k e)) {z : Value} (hz : (zeroValue e).run P w = .ok z w) (s : ByteArray) (hs : s.size≤1000000) :
  (Instr.lookup t (.map (some b)) (.string s) false).run P w = .ok ((m s).getD z) w:=by
 obtain ⟨D,h1,h3⟩:=h;obtain ⟨v,ps,hrun,hv⟩:=h1.lookup (Go.Maps.string_keyed hk) ht hz (heldR_mk z) (Go.WideMaps.keyOf_string_mk hk (show s.size≤maxLen by unfold maxLen; omega));rw [(h3 s).2 z] at hv;simp only [heldR,Option.some.injEq,Prod.mk.injEq,DataW.held.injEq] at hv;rw [hrun,hv.1]
theorem MapS.look_ok (h : MapS P k w b n m) (hk : P.underlying k = some .string) (ht : P.underlying t = some (.map k e)) {z : Value} (hz : (zeroValue e).run P w = .ok z w) (s : ByteArray) (hs : s.size≤1000000) :
  (Instr.lookup t (.map (some b)) (.string s) true).run P w = .ok (.tuple #[(m s).getD z,.bool (m s).isSome]) w:=by
 obtain ⟨D,h1,h3⟩:=h;obtain ⟨v,ps,hrun,hv⟩:=h1.look_ok (Go.Maps.string_keyed hk) ht hz (heldR_mk z) (Go.WideMaps.keyOf_string_mk hk (show s.size≤maxLen by unfold maxLen; omega));rw [(h3 s).2 z] at hv;simp only [heldR,Option.some.injEq,Prod.mk.injEq,DataW.held.injEq] at hv;rw [hrun,hv.1,(h3 s).1]
theorem MapS.put (h : MapS P k w b n m) (hk : P.underlying k = some .string) (ht : P.underlying t = some (.map k e)) (hn : n≤1000000) (s : ByteArray) (hs : s.size≤1000000) (v : Value) :
  ∃ w',(Instr.mapUpdate t (.map (some b)) (.string s) v).run P w = .ok () w'∧MapS P k w' b (n+1) (putS m s v)∧But b w w':=by
 obtain ⟨D,h1,h3⟩:=h;have hM:=h1.isMap;obtain ⟨w',hrun,h4,hg⟩:=h1.update (Go.Maps.string_keyed hk) ht (show n < maxLen by unfold maxLen; omega) (Go.WideMaps.keyOf_string_mk hk (show s.size≤maxLen by unfold maxLen; omega)) (heldR_mk v);refine ⟨w',hrun,⟨_,h4,fun x=>?_⟩,(Kept.refl _ _).grown hg (fun k hk=>by cases hk; exact Or.inr (by simp))⟩;by_cases hx : x = s
 ·subst hx;(have hkl : WideAt.IsKeyLit (.string x.data.toList):=by simp [WideAt.IsKeyLit]);refine ⟨?_,fun z=>?_⟩
  ·rw [Go.Maps.has_put_same hM hkl,putS_same]; rfl
  ·rw [Go.Maps.atKey_put_same hM hkl,putS_same]; rfl
 ·(have hne : (Lit.string x.data.toList)≠.string s.data.toList:=fun e=>hx (Go.WideShapes.bytes_inj (by injection e)));refine ⟨?_,fun z=>?_⟩
  ·rw [Go.Maps.has_put_other hne,putS_other hx,(h3 x).1]
  ·rw [Go.Maps.atKey_put_other hne,putS_other hx,(h3 x).2]
end

def RangeS (P : Program) (k : TypeId) (w : World) (b r n : Nat) (m : ByteArray→Option Value) (left : ByteArray→Bool) (cnt : Nat) : Prop :=
 ∃ (D : DataW Value) (lf : Lit→Bool),w.ranges P k heldR b r n D lf cnt∧(∀ s : ByteArray,Maps.has D (.string s.data.toList) = (m s).isSome∧∀ z,D.atKey (.string s.data.toList) (.held z) = .held ((m s).getD z))∧∀ s : ByteArray,lf (.string s.data.toList) = left s
theorem keyOf_string_inv {P : Program} {k : TypeId} (hk : P.underlying k = some .string) {key : Value} {kl : Lit} (h : keyOf P k key = some kl) : ∃ s : ByteArray,key = .string s∧kl = .string s.data.toList∧s.size≤maxLen:=by
 cases key <;> simp [keyOf,hk,mapKey] at h
 obtain ⟨hw,rfl⟩:=h;exact ⟨_,rfl,rfl,hw⟩

section
variable {P : Program} {k e t : TypeId} {w w' : World} {b r n cnt : Nat} {m : ByteArray→Option Value} {left : ByteArray→Bool}
theorem RangeS.map (h : RangeS P k w b r n m left cnt) : MapS P k w b n m:=by
 obtain ⟨D,lf,h1,h2,h3⟩:=h;exact ⟨D,h1.owns,h2⟩
theorem RangeS.left_eq (h : RangeS P k w b r n m left cnt) : w.rangeLeft b r = cnt:=by
 obtain ⟨D,lf,h1,h2,h3⟩:=h;exact h1.left_eq
theorem RangeS.ne (h : RangeS P k w b r n m left cnt) : r≠b:=by
 obtain ⟨D,lf,h1,h2,h3⟩:=h;exact h1.ne
theorem RangeS.lt (h : RangeS P k w b r n m left cnt) : r < w.heap.size:=by
 obtain ⟨D,lf,h1,h2,h3⟩:=h;exact h1.lt
theorem RangeS.keep {F : Nat→Prop} (h : RangeS P k w b r n m left cnt) (hk : Kept F w w') (hb' : F b) (hr' : F r) : RangeS P k w' b r n m left cnt:=by
 have hbl:=h.map.lt;have hrl:=h.lt;obtain ⟨D,lf,⟨es,clock,since,seen,c0,hb,F,hs,hD,hr,rest⟩,h2,h3⟩:=h;exact ⟨D,lf,⟨es,clock,since,seen,c0,(hk.block b hbl hb').trans hb,F,hs,hD,(hk.block r hrl hr').trans hr,rest⟩,h2,h3⟩
theorem MapS.range (h : MapS P k w b n m) (hk : P.underlying k = some .string) (ht : P.underlying t = some (.map k e)) :
  ∃ w' cnt,(Instr.range t (.map (some b))).run P w = .ok (.pointer (some ⟨w.heap.size,0,none⟩)) w'∧RangeS P k w' b w.heap.size n m (fun s=>(m s).isSome) cnt∧All w w'∧w'.heap.size = w.heap.size+1:=by
 obtain ⟨D,h1,h3⟩:=h;obtain ⟨w',hrun,h4,hg,hsz⟩:=h1.range (Go.Maps.string_keyed hk) ht;exact ⟨w',_,hrun,⟨D,_,h4,h3,fun s=>(h3 s).1⟩,(Kept.refl _ _).grown hg (fun k hk=>by cases hk),hsz⟩
theorem RangeS.next (h : RangeS P k w b r n m left cnt) (hk : P.underlying k = some .string) (ty : TypeId) :
  ((∀ s : ByteArray,left s = false)∧(Instr.next (.pointer (some ⟨r,0,none⟩)) false ty).run P w = .ok (.tuple #[.bool false]) w) ∨
  ∃ (s : ByteArray) (v : Value) (w' : World) (cnt' : Nat),left s = true∧m s = some v∧(Instr.next (.pointer (some ⟨r,0,none⟩)) false ty).run P w = .ok (.tuple #[.bool true,.string s,v]) w' ∧
   RangeS P k w' b r n m (fun x=>left x && !decide (x = s)) cnt'∧cnt' < cnt∧But r w w'∧w'.heap.size = w.heap.size∧(Instr.entry (.pointer (some ⟨r,0,none⟩))).run P w' = .ok (.tuple #[.string s,v]) w':=by
 obtain ⟨D,lf,h1,h2,h3⟩:=h;rcases h1.next (Go.Maps.string_keyed hk) ty with ⟨-,hl,hrun⟩ | ⟨key,v,kl,y,w',cnt',hkey,hlk,hv,hat,hrun,hrg,hlt,hgr,hsz,hen⟩
 ·exact Or.inl ⟨fun s=>by rw [← h3 s]; exact hl _,hrun⟩
 ·obtain ⟨s,rfl,rfl,-⟩:=keyOf_string_inv hk hkey;have hy : y = (.held v,[]):=by
   have:=heldR_mk v;rw [hv] at this;injection this
  subst hy;have hms : m s = some v:=by
   have e0:=hat (.held v);rw [(h2 s).2] at e0;have hh : Maps.has D (.string s.data.toList) = true:=Go.Maps.has_true_of_atKey hat
   rw [(h2 s).1] at hh;obtain ⟨u,hu⟩:=Option.isSome_iff_exists.1 hh;rw [hu] at e0 ⊢;simp only [Option.getD_some,DataW.held.injEq] at e0;rw [e0]
  refine Or.inr ⟨s,v,w',cnt',by rw [← h3 s]; exact hlk,hms,hrun,⟨D,_,hrg,h2,fun x=>?_⟩,hlt,(Kept.refl _ _).grown hgr (fun k hk=>by cases hk; exact Or.inr (by simp)),hsz,hen⟩;show (lf (.string x.data.toList) && !(Lit.string x.data.toList).sameKey (.string s.data.toList)) = _
  rw [h3 x]
  congr 1
  by_cases hx : x = s
  ·subst hx;rw [WideAt.sameKey_self (by simp [WideAt.IsKeyLit])];simp
  ·rw [Go.Maps.sameKey_ne (fun e=>hx (Go.WideShapes.bytes_inj (by injection e)))];simp [hx]
end
end Go.Proofs.YtjbaijgdkkccbaaGreatDoor

/- Maps from strings to bools; moments; turnsFault. -/
namespace Go.Proofs.YtjbaijgdkkccbaaGreatDoor
open Go.RowKit

def MapO (P : Program) (k : TypeId) (w : World) (b n : Nat) (f : ByteArray→Bool) : Prop:=∃ m,MapS P k w b n m∧∀ p,(m p).getD (.bool false) = .bool (f p)
section
variable {P : Program} {k e t : TypeId} {w w' : World} {b n : Nat} {f : ByteArray→Bool}
theorem MapO.made (P : Program) (k : TypeId) (w : World) : MapO P k (w.alloc (.map #[] 0)) w.heap.size 0 (fun _=>false):=⟨_,MapS.made P k w,fun _=>rfl⟩
theorem MapO.lt (h : MapO P k w b n f) : b < w.heap.size:=by obtain ⟨m,h1,-⟩:=h; exact h1.lt
theorem MapO.keep {F : Nat→Prop} (h : MapO P k w b n f) (hk : Kept F w w') (hF : F b) : MapO P k w' b n f:=by obtain ⟨m,h1,h2⟩:=h; exact ⟨m,h1.keep hk hF,h2⟩
theorem MapO.congr {g : ByteArray→Bool} (h : MapO P k w b n f) (hm : ∀ s,f s = g s) : MapO P k w b n g:=by
 have : f = g:=funext hm;rw [← this]; exact h
theorem MapO.look (h : MapO P k w b n f) (hk : P.underlying k = some .string) (ht : P.underlying t = some (.map k e)) (hz : (zeroValue e).run P w = .ok (.bool false) w) (s : ByteArray) (hs : s.size≤1000000) :
  (Instr.lookup t (.map (some b)) (.string s) false).run P w = .ok (.bool (f s)) w:=by
 obtain ⟨m,h1,h2⟩:=h;rw [h1.look hk ht hz s hs,h2 s]
theorem MapO.put (h : MapO P k w b n f) (hk : P.underlying k = some .string) (ht : P.underlying t = some (.map k e)) (hn : n≤1000000) (s : ByteArray) (hs : s.size≤1000000) (v : Bool) :
  ∃ w',(Instr.mapUpdate t (.map (some b)) (.string s) (.bool v)).run P w = .ok () w'∧MapO P k w' b (n+1) (fun q=>if q = s then v else f q)∧But b w w':=by
 obtain ⟨m,h1,h2⟩:=h;obtain ⟨w',hr,h3,h4⟩:=h1.put hk ht hn s hs (.bool v);refine ⟨w',hr,⟨_,h3,fun p=>?_⟩,h4⟩;by_cases hp : p = s
 ·subst hp; rw [putS_same]; simp
 ·rw [putS_other hp,h2 p]; simp [hp]
end

theorem isMoment_any (n : Int) (w : World) : Calls Tryz.prog 60 #[.int .i64 n] w fun e w'=>e = .returned (.bool (decide (0≤n∧n < 5761440)))∧w = w':=by
 by_cases h1 : 0≤n
 ·(have d1 : decide (0≤n) = true:=by simpa using h1);by_cases h2 : n < 5761440
  ·(have d2 : decide (n < 5761440) = true:=by simpa using h2);have HF:=Lib.hid (show decide (0≤n∧n < 5761440) = true from by simp [h1,h2]);(go_enter Tryz.func60,Tryz.ntmps60);(go_wp2_with fail);go_ret;exact ⟨by first | rfl | (rw [HF.out]; rfl),rfl⟩
  ·(have d2 : decide (n < 5761440) = false:=by simpa using h2);have HF:=Lib.hid (show decide (0≤n∧n < 5761440) = false from by simp [h2]);(go_enter Tryz.func60,Tryz.ntmps60);(go_wp2_with fail);go_ret;exact ⟨by first | rfl | (rw [HF.out]; rfl),rfl⟩
 ·(have d1 : decide (0≤n) = false:=by simpa using h1);have HF:=Lib.hid (show decide (0≤n∧n < 5761440) = false from by simp [h1]);(go_enter Tryz.func60,Tryz.ntmps60);(go_wp2_with fail);go_ret;exact ⟨by first | rfl | (rw [HF.out]; rfl),rfl⟩
theorem moment_any (n : Int) (w : World) : Calls Tryz.prog 68 #[.int .i64 n] w fun e w'=>e = .returned (.bool (decide (0≤n∧n < 5761440)))∧w = w':=by
 have HF:=Lib.hid (show decide (0≤n∧n≤5761439) = decide (0≤n∧n < 5761440) from by
  by_cases h : 0≤n∧n < 5761440
  ·rw [decide_eq_true h,decide_eq_true (show 0≤n∧n≤5761439 by omega)]
  ·rw [decide_eq_false h,decide_eq_false (show ¬ (0≤n∧n≤5761439) by omega)])
 obtain ⟨bv,hbv⟩ : ∃ bv,bv = decide (0≤n∧n < 5761440):=⟨_,rfl⟩;rw [← hbv] at HF ⊢;clear hbv;(go_enter Tryz.func68,Tryz.ntmps68);(go_wp2_with fail);refine (in_any _ _ _ _).mono ?_;rintro e w' ⟨rfl,rfl⟩;rw [HF.out];(go_wp2_with fail);go_ret;exact ⟨rfl,rfl⟩

end Go.Proofs.YtjbaijgdkkccbaaGreatDoor

/- CheckBoard answers boardF. -/
namespace Go.Proofs.YtjbaijgdkkccbaaGreatDoor
open Go.RowKit

section
variable {b : Board4}
end

structure BoardIs (w : World) (a0 : Option Addr) (l0 : Nat) (a1 : Option Addr) (l1 : Nat) (a2 : Option Addr) (l2 : Nat) (a3 : Option Addr) (l3 : Nat) (b : Board4) : Prop where
 pairs : Sl RPair 2 (fun _=>True) w a0 l0 b.pairs
 barred : Sl RPair 2 (fun _=>True) w a1 l1 b.barred
 heads : Sl RStr 1 (fun _=>True) w a2 l2 b.heads
 turns : Sl RTurn 3 (fun _=>True) w a3 l3 b.turns
 n0 : l0≤1000000
 n1 : l1≤1000000
 n2 : l2≤1000000
 n3 : l3≤1000000
theorem BoardIs.keep {w w' : World} {a0 : Option Addr} {l0 : Nat} {a1 : Option Addr} {l1 : Nat} {a2 : Option Addr} {l2 : Nat} {a3 : Option Addr} {l3 : Nat} {b : Board4} (h : BoardIs w a0 l0 a1 l1 a2 l2 a3 l3 b) (k : All w w') : BoardIs w' a0 l0 a1 l1 a2 l2 a3 l3 b :=
 ⟨h.pairs.keep RPair.ok k,h.barred.keep RPair.ok k,h.heads.keep RStr.ok k,h.turns.keep RTurn.ok k,h.n0,h.n1,h.n2,h.n3⟩

end Go.Proofs.YtjbaijgdkkccbaaGreatDoor

/- BoardFault answers boardF. -/
namespace Go.Proofs.YtjbaijgdkkccbaaGreatDoor
open Go.RowKit


def two (r1 r2 : Int) : Int:=if r1≠0 then r1 else r2
set_option maxHeartbeats 1600000 in
theorem first2_any (g1 g2 : FuncId) (caps : Array Value) (eg1 : ∀ args w,(callFunc g1 args).run Tryz.prog w = .ok (.enter g1 args) w) (eg2 : ∀ args w,(callFunc g2 args).run Tryz.prog w = .ok (.enter g2 args) w) (blk : Nat) (w : World)
  (c0 : w.cell? ⟨blk,0,none⟩ = some (.func (.func g1) #[] caps)) (c1 : w.cell? ⟨blk,1,none⟩ = some (.func (.func g2) #[] caps)) (r1 r2 : Int)
  (h1 : ∀ wx,All w wx→Calls Tryz.prog g1 caps wx fun e w'=>e = .returned (.int .i64 r1)∧All wx w') (h2 : ∀ wx,All w wx→Calls Tryz.prog g2 caps wx fun e w'=>e = .returned (.int .i64 r2)∧All wx w') :
  Calls Tryz.prog 131 #[.slice (some ⟨blk,0,none⟩) 2 2] w fun e w'=>e = .returned (.int .i64 (two r1 r2))∧All w w':=by
 have H1:=Lib.hid h1;have H2:=Lib.hid h2;have HC:=Lib.hid (fun (wx : World) (k : All w wx)=>And.intro (k.cell c0 trivial) (k.cell c1 trivial));obtain ⟨er,her⟩ : ∃ e,e = two r1 r2:=⟨_,rfl⟩;have HER:=Lib.hid her;rw [← her];clear h1 h2 c0 c1 her;(go_enter Tryz.func131,Tryz.ntmps131);(go_wp2_with fail);go_loopw [8] (fun i wr=>∃ k : Nat,k≤2∧i = .int .i64 k∧(1≤k→r1 = 0)∧(2≤k→r2 = 0)∧All w wr) (fun i _=>2 - (intOf i).toNat)
 case atStart=>exact ⟨0,by omega,rfl,fun h=>absurd h (by omega),fun h=>absurd h (by omega),Kept.refl _ _⟩
 case round =>
  obtain ⟨k,hk,rfl,hz1,hz2,hall⟩:=hrel;obtain ⟨wo,rfl⟩ : ∃ wo : World,wo = wr:=⟨_,rfl⟩;have Z1:=Lib.hid hz1;have Z2:=Lib.hid hz2;clear hz1 hz2;obtain ⟨c0,c1⟩:=HC.out _ hall;(have h3 : k = 0∨k = 1∨k = 2:=by omega);rcases h3 with rfl | rfl | rfl
  ·(go_wp2_with fail);refine (H1.out _ hall).mono ?_;rintro e w2 ⟨rfl,hw2⟩;by_cases hr : r1 = 0
   ·have HR:=Lib.hid hr;(have hne : (r1 != 0) = false:=by simp [hr]);clear hr;(go_wp2_with fail);go_roundw
    case rel=>exact ⟨1,by omega,rfl,fun _=>HR.out,fun h=>absurd h (by omega),hall.trans hw2⟩
    case measure=>simp [intOf]
   ·(have hne : (r1 != 0) = true:=by simpa using hr);have hfin:=Lib.hid (show er = r1 from by rw [HER.out,two,if_pos hr]);clear hr;(go_wp2_with fail);go_ret;exact ⟨ret_int' hfin.out.symm,hall.trans hw2⟩
  ·(go_wp2_with fail);refine (H2.out _ hall).mono ?_;rintro e w2 ⟨rfl,hw2⟩;by_cases hr : r2 = 0
   ·have HR:=Lib.hid hr;(have hne : (r2 != 0) = false:=by simp [hr]);clear hr;(go_wp2_with fail);go_roundw
    case rel=>exact ⟨2,by omega,rfl,fun _=>Z1.out (by omega),fun _=>HR.out,hall.trans hw2⟩
    case measure=>simp [intOf]
   ·(have hne : (r2 != 0) = true:=by simpa using hr);have hfin:=Lib.hid (show er = r2 from by rw [HER.out,two,if_neg (by simp [Z1.out (by omega)])]);clear hr;(go_wp2_with fail);go_ret;exact ⟨ret_int' hfin.out.symm,hall.trans hw2⟩
  ·have hfin:=Lib.hid (show er = 0 from by rw [HER.out,two,if_neg (by simp [Z1.out (by omega)])]; exact Z2.out (by omega));(go_wp2_with fail);go_ret;exact ⟨ret_int' hfin.out.symm,hall⟩

end Go.Proofs.YtjbaijgdkkccbaaGreatDoor
