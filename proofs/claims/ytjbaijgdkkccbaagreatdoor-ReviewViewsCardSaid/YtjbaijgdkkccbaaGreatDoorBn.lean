/- Latest; what the law ReviewLatest asks besides. -/
import Derived.Test.YtjbaijgdkkccbaaGreatDoorRs
import Derived.Test.YtjbaijgdkkccbaaGreatDoorBz
import Derived.Test.YtjbaijgdkkccbaaGreatDoorEq
import Derived.Test.YtjbaijgdkkccbaaGreatDoorBg
import Derived.Test.YtjbaijgdkkccbaaGreatDoorZc
namespace Go.Proofs.YtjbaijgdkkccbaaGreatDoor
open Go.RowKit

theorem moment10_any (σ : St) (n : Nat) (w : World) (hs : Str σ w n) (hn : n≤4611686018427380000) :
  Calls Tryz.prog 13 #[.pointer (some ⟨σ.b,0,none⟩)] w (StPost σ n 1 w (IsNum fun r=>-1≤r∧r≤5761440)):=by
 have hl:=hs.lt;(go_enter Tryz.func13,Tryz.ntmps13);(go_wp2_with fail);refine (pick_any σ n _ 12 12 [0,10,100,1000,1440,2000,2880,5000,9000,5761439,(-1),5761440] _ (hs.keep (Kept.alloc _ _ _)) (by omega) (Sl.lit_ints _ (heap_at w _ _ rfl) rfl (by omega)) (by omega) (by omega)).mono ?_;rintro e w2 ⟨v,n2,rfl,⟨r,rfl,hr⟩,hA2,hB2,hs2,hb2⟩;(have hr2 : -1≤r∧r≤5761440:=by simp at hr; omega);have hb3:=(Kept.alloc (fun k=>k≠σ.b) w (.cells #[.int .i64 0,.int .i64 10,.int .i64 100,.int .i64 1000,.int .i64 1440,.int .i64 2000,.int .i64 2880,.int .i64 5000,.int .i64 9000,.int .i64 5761439,.int .i64 (-1),.int .i64 5761440] 3)).trans hb2;clear hr hb2;(go_wp2_with fail);go_ret;exact ⟨_,n2,rfl,⟨r,rfl,hr2⟩,hA2,hB2,hs2,hb3⟩
theorem momentFault_any (n : Int) (w : World) : Calls Tryz.prog 19 #[.int .i64 n] w fun e w'=>e = .returned (.int .i64 (if 0≤n∧n < 5761440 then 0 else 1))∧w = w':=by
 by_cases h1 : n < 0
 ·(have d1 : decide (n < 0) = true:=by simpa using h1);(go_enter Tryz.func19,Tryz.ntmps19);(go_wp2_with fail);refine (whenV_any true 1 _).mono ?_;rintro e w' ⟨rfl,rfl⟩;(go_wp2_with fail);go_ret;exact ⟨rfl,rfl⟩
 ·(have d1 : decide (n < 0) = false:=by simpa using h1);by_cases h2 : 5761440≤n
  ·(have d2 : decide (5761440≤n) = true:=by simpa using h2);(go_enter Tryz.func19,Tryz.ntmps19);(go_wp2_with fail);refine (whenV_any true 1 _).mono ?_;rintro e w' ⟨rfl,rfl⟩;(go_wp2_with fail);go_ret;exact ⟨rfl,rfl⟩
  ·(have d2 : decide (5761440≤n) = false:=by simpa using h2);(go_enter Tryz.func19,Tryz.ntmps19);(go_wp2_with fail);refine (whenV_any false 1 _).mono ?_;rintro e w' ⟨rfl,rfl⟩;(go_wp2_with fail);go_ret;exact ⟨rfl,rfl⟩
def LatV (er : Int) (o : Option Raw) (e : Ending) (w' : World) : Prop :=
 ∃ (x : Rev) (aa : Option Addr) (ac : Nat),e = .returned (.tuple #[.agg (revC x aa ac),.bool (decide (er = 0) && o.isSome),.int .i64 er])∧Sl RAns 4 (fun _=>True) w' aa x.answers.length x.answers∧RevSmall x∧x = if er = 0 then (o.getD raw0).1 else raw0.1
theorem LatV.bad {er : Int} {o : Option Raw} {w' : World} (h : er≠0) : LatV er o (.returned (.tuple #[.agg #[.int .i64 0,.int .i64 0,.string ⟨#[]⟩,.string ⟨#[]⟩,.string ⟨#[]⟩,.bool false,.slice none 0 0],.bool false,.int .i64 er])) w' :=
 ⟨raw0.1,none,0,by rw [decide_eq_false h]; rfl,Sl.nil _ _ _ _ _,by unfold RevSmall; decide,by rw [if_neg h]⟩
def QNewP (B : Nat) (T : TypeId) (zs : Array Value) (v : Value) (w : World) : Prop:=∃ b,v = .pointer (some ⟨b,0,none⟩)∧B≤b∧w.heap[b]? = some (.cells zs T (0,0))
theorem QNewP.stays (B : Nat) (T : TypeId) (zs : Array Value) : Stays All (QNewP B T zs):=fun _ _ _ k ⟨b,h1,h2,h3⟩=>⟨b,h1,h2,k.heap h3 trivial⟩
def QBook (cs : Array Value) (ts : List Raw) (v : Value) (w : World) : Prop:=∃ kb,v = .pointer (some ⟨kb,0,none⟩)∧BookIs w kb cs ts
theorem QBook.stays (cs : Array Value) (ts : List Raw) : Stays All (QBook cs ts):=fun _ _ _ k ⟨b,h1,h2⟩=>⟨b,h1,h2.keep k⟩

def GLat (wa : World) (L : Nat→Bool) (a : Act) (w : World) : Prop:=All wa w∧(L 5 = false→a.tmps.getD 37 undef = undef)
theorem GLat.step {wa w w' : World} {L : Nat→Bool} {a : Act} {i : Nat} {d : Option Tmp} {v : Value} (h : GLat wa L a w) (hi : i≠5) (hd : d≠some 37) (k : All w w') : GLat wa (fun j=>if j = i then true else L j) (a.put d v) w' :=
 ⟨h.1.trans k,fun hL=>by rw [put_at v hd]; exact h.2 (by simpa [show ¬ 5 = i from fun e=>hi e.symm] using hL)⟩
def DLat (ag sl pr tv tp xa iv : Value) (cs : Array Value) (ts : List Raw) (B : Nat) (xc : Array Value) : Nat→Act→World→Prop
 | 0=>fun a _=>a.tmps.getD 32 undef = ag
 | 1=>fun a _=>a.tmps.getD 33 undef = sl
 | 2=>fun a w=>a.tmps.getD 37 undef = tp∨QBook cs ts (a.tmps.getD 34 undef) w
 | 3=>fun a _=>a.tmps.getD 35 undef = pr
 | 4=>fun a _=>a.tmps.getD 36 undef = tv
 | 5=>fun a _=>a.tmps.getD 37 undef = tp
 | 6=>fun a _=>a.tmps.getD 31 undef = tp
 | 7=>fun a _=>a.tmps.getD 38 undef = xa
 | 8=>fun a _=>a.tmps.getD 39 undef = iv
 | 9=>fun a w=>∃ b,a.tmps.getD 12 undef = .pointer (some ⟨b,0,none⟩)∧B≤b∧∃ v0 v1 v2 v3 v4 v5 v6,w.heap[b]? = some (.cells #[v0,v1,v2,v3,v4,v5,v6] 73 (0,0))
 | _=>fun a w=>∃ b,a.tmps.getD 12 undef = .pointer (some ⟨b,0,none⟩)∧B≤b∧w.heap[b]? = some (.cells xc 73 (0,0))
def MLat (tp : Value) (B : Nat) (_xc : Array Value) (j : Nat) (a : Act) (v : Value) (w w' : World) : Prop :=
 if j = 10 then a.tmps.getD 37 undef = tp∧∃ b,a.tmps.getD 12 undef = .pointer (some ⟨b,0,none⟩)∧B≤b∧∃ v0 v1 v2 v3 v4 v5 v6,w'.heap[b]? = some (.cells #[v0,v1,v2,v3,v4,v5,v6] 73 (0,0)) else All w w'∧(j = 5→v = tp)
theorem MLat.all {tp : Value} {B : Nat} {xc : Array Value} {j : Nat} {a : Act} {v : Value} {w w' : World} (h : j≠10∧j≠5) (k : All w w') : MLat tp B xc j a v w w':=by
 rw [MLat,if_neg h.1]; exact ⟨k,fun e=>absurd e h.2⟩
theorem DLat.keep {ag sl pr tv tp xa iv : Value} {cs : Array Value} {ts : List Raw} {B : Nat} {xc : Array Value} {ops : Array Oper} (hd : ∀ i,i < 11→dstAt ops i = [some 32,some 33,some 34,some 35,some 36,some 37,some 31,some 38,some 39,some 12,none].getD i none) (h9 : 9 ∈ depsOf ops 10)
  (i j : Nat) (a : Act) (w : World) (v : Value) (w' : World) (hi : i < 11) (hj : j < 11) (hij : i≠j) (hdep : j ∉ depsOf ops i) (hs : a.tmps.size = 43) (hm : MLat tp B xc j a v w w') (h : DLat ag sl pr tv tp xa iv cs ts B xc i a w) : DLat ag sl pr tv tp xa iv cs ts B xc i (a.put (dstAt ops j) v) w':=by
 (have hne : ∀ t,[some 32,some 33,some 34,some 35,some 36,some 37,some 31,some 38,some 39,some 12,(none : Option Tmp)].getD j none≠some t→(a.put (dstAt ops j) v).tmps.getD t undef = a.tmps.getD t undef:=fun t ht=>put_at v (by rw [hd j hj]; exact ht));(have hcj : j = 0∨j = 1∨j = 2∨j = 3∨j = 4∨j = 5∨j = 6∨j = 7∨j = 8∨j = 9∨j = 10:=by omega);(have hci : i = 0∨i = 1∨i = 2∨i = 3∨i = 4∨i = 5∨i = 6∨i = 7∨i = 8∨i = 9∨i = 10:=by omega);rcases hci with rfl | rfl | rfl | rfl | rfl | rfl | rfl | rfl | rfl | rfl | rfl
 ·show (a.put (dstAt ops j) v).tmps.getD 32 undef = _
  rw [hne 32 (by rcases hcj with rfl | rfl | rfl | rfl | rfl | rfl | rfl | rfl | rfl | rfl | rfl <;> first | decide | exact absurd rfl hij)];exact h
 ·show (a.put (dstAt ops j) v).tmps.getD 33 undef = _
  rw [hne 33 (by rcases hcj with rfl | rfl | rfl | rfl | rfl | rfl | rfl | rfl | rfl | rfl | rfl <;> first | decide | exact absurd rfl hij)];exact h
 ·show (a.put (dstAt ops j) v).tmps.getD 37 undef = tp∨QBook cs ts ((a.put (dstAt ops j) v).tmps.getD 34 undef) w'
  by_cases h5 : j = 5
  ·subst h5;rw [MLat,if_neg (by decide)] at hm
   left
   rw [hd 5 (by decide)];exact (put_same _ (show 37 < a.tmps.size by omega)).trans (hm.2 rfl)
  ·have e37:=hne 37 (by rcases hcj with rfl | rfl | rfl | rfl | rfl | rfl | rfl | rfl | rfl | rfl | rfl <;> first | decide | exact absurd rfl h5);have e34:=hne 34 (by rcases hcj with rfl | rfl | rfl | rfl | rfl | rfl | rfl | rfl | rfl | rfl | rfl <;> first | decide | exact absurd rfl hij);rw [e37,e34];by_cases h10 : j = 10
   ·rw [MLat,if_pos h10] at hm; exact Or.inl hm.1
   ·rw [MLat,if_neg h10] at hm;rcases h with h | h
    ·exact Or.inl h
    ·exact Or.inr (QBook.stays _ _ _ _ _ hm.1 h)
 ·show (a.put (dstAt ops j) v).tmps.getD 35 undef = _
  rw [hne 35 (by rcases hcj with rfl | rfl | rfl | rfl | rfl | rfl | rfl | rfl | rfl | rfl | rfl <;> first | decide | exact absurd rfl hij)];exact h
 ·show (a.put (dstAt ops j) v).tmps.getD 36 undef = _
  rw [hne 36 (by rcases hcj with rfl | rfl | rfl | rfl | rfl | rfl | rfl | rfl | rfl | rfl | rfl <;> first | decide | exact absurd rfl hij)];exact h
 ·show (a.put (dstAt ops j) v).tmps.getD 37 undef = _
  rw [hne 37 (by rcases hcj with rfl | rfl | rfl | rfl | rfl | rfl | rfl | rfl | rfl | rfl | rfl <;> first | decide | exact absurd rfl hij)];exact h
 ·show (a.put (dstAt ops j) v).tmps.getD 31 undef = _
  rw [hne 31 (by rcases hcj with rfl | rfl | rfl | rfl | rfl | rfl | rfl | rfl | rfl | rfl | rfl <;> first | decide | exact absurd rfl hij)];exact h
 ·show (a.put (dstAt ops j) v).tmps.getD 38 undef = _
  rw [hne 38 (by rcases hcj with rfl | rfl | rfl | rfl | rfl | rfl | rfl | rfl | rfl | rfl | rfl <;> first | decide | exact absurd rfl hij)];exact h
 ·show (a.put (dstAt ops j) v).tmps.getD 39 undef = _
  rw [hne 39 (by rcases hcj with rfl | rfl | rfl | rfl | rfl | rfl | rfl | rfl | rfl | rfl | rfl <;> first | decide | exact absurd rfl hij)];exact h
 ·obtain ⟨b,h1,h2,h3⟩:=h;have e12:=hne 12 (by rcases hcj with rfl | rfl | rfl | rfl | rfl | rfl | rfl | rfl | rfl | rfl | rfl <;> first | decide | exact absurd rfl hij);by_cases h10 : j = 10
  ·rw [MLat,if_pos h10] at hm;obtain ⟨-,b2,g1,g2,g3⟩:=hm;exact ⟨b2,by rw [e12]; exact g1,g2,g3⟩
  ·rw [MLat,if_neg h10] at hm;obtain ⟨v0,v1,v2,v3,v4,v5,v6,h3⟩:=h3;exact ⟨b,by rw [e12]; exact h1,h2,v0,v1,v2,v3,v4,v5,v6,hm.1.heap h3 trivial⟩
 ·obtain ⟨b,h1,h2,h3⟩:=h;(have h9' : j≠9:=fun e=>hdep (e ▸ h9));have e12:=hne 12 (by rcases hcj with rfl | rfl | rfl | rfl | rfl | rfl | rfl | rfl | rfl | rfl | rfl <;> first | decide | exact absurd rfl h9');rw [MLat,if_neg (Ne.symm hij)] at hm;exact ⟨b,by rw [e12]; exact h1,h2,hm.1.heap h3 trivial⟩

end Go.Proofs.YtjbaijgdkkccbaaGreatDoor

/- The generator Who. -/
namespace Go.Proofs.YtjbaijgdkkccbaaGreatDoor
open Go.RowKit

set_option maxHeartbeats 1600000 in
theorem who_any (σ : St) (n : Nat) (w : World) (hs : Str σ w n) (hn : n≤4611686018427380000) :
  Calls Tryz.prog 11 #[.pointer (some ⟨σ.b,0,none⟩)] w (StPost σ n 1 w (IsStr fun r=>r.size≤1000000)):=by
 have hlt:=hs.lt;(go_enter Tryz.func11,Tryz.ntmps11);(go_wp2_with fail);refine (some10_any σ n _ 11 11 [⟨#[97,110,110]⟩,⟨#[98,111,98]⟩,⟨#[98,111,98]⟩,⟨#[99,105,100]⟩,⟨#[99,105,100]⟩,⟨#[100,101,101]⟩,⟨#[101,118,101]⟩,⟨#[102,97,121]⟩,⟨#[122,101,100]⟩,⟨#[]⟩,⟨#[65]⟩] _ (hs.keep (Kept.alloc _ _ _)) (by omega) (Sl.lit_strs _ (heap_at w _ _ rfl) rfl (by omega)) (by omega) (by omega)).mono ?_;rintro e w2 ⟨v,n2,rfl,⟨r,rfl,-,hrz⟩,hn1,hn2,hs2,hb2⟩;have hb : But σ.b w w2:=(Kept.alloc _ _ _).trans hb2;(go_wp2_with fail);go_ret;exact ⟨_,n2,rfl,⟨r,rfl,hrz⟩,hn1,hn2,hs2,hb⟩
end Go.Proofs.YtjbaijgdkkccbaaGreatDoor
