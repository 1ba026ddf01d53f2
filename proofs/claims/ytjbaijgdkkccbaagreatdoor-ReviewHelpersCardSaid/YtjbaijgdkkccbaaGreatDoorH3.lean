/- Who helped with how many papers; what was written by who must not: plain. -/
import Derived.Test.YtjbaijgdkkccbaaGreatDoorL1
import Derived.Test.YtjbaijgdkkccbaaGreatDoorRa
import Derived.Test.YtjbaijgdkkccbaaGreatDoorBg
import Derived.Test.YtjbaijgdkkccbaaGreatDoorZc
import Derived.Sort.KeysCollected
import Derived.Sort.Walk0
import Derived.Maps.OwnSet
import Derived.Test.YtjbaijgdkkccbaaGreatDoorSp
namespace Go.Proofs.YtjbaijgdkkccbaaGreatDoor
open Go.RowKit

def papZ (q : ByteArray) (l : List ByteArray) (z : Raw) : List ByteArray:=if z.1.by_ = q∧q.size≠0∧memB z.1.paper l = false then l ++ [z.1.paper] else l
def papL (zs : List Raw) (q : ByteArray) : List ByteArray:=zs.foldl (papZ q) []
theorem papZ_len (q : ByteArray) (l : List ByteArray) (z : Raw) : (papZ q l z).length≤l.length+1:=by
 unfold papZ; split <;> simp
theorem papL_len (zs : List Raw) (q : ByteArray) : (papL zs q).length≤zs.length:=by
 have : ∀ (zs : List Raw) (l : List ByteArray),(zs.foldl (papZ q) l).length≤l.length+zs.length:=by
  intro zs
  induction zs with
  | nil=>intro l; exact Nat.le_refl _
  | cons z zs ih=>intro l; rw [List.foldl_cons]; have h1:=ih (papZ q l z); have h2:=papZ_len q l z; rw [List.length_cons]; omega
 have:=this zs [];simpa [papL] using this
theorem papZ_nodup {q : ByteArray} {l : List ByteArray} {z : Raw} (h : l.Nodup) : (papZ q l z).Nodup:=by
 unfold papZ;split
 ·rename_i h1
  rw [List.nodup_append];refine ⟨h,by simp,fun a ha b hb=>?_⟩;rw [List.mem_singleton] at hb;subst hb;intro e;subst e;rw [memB_true ha] at h1;exact nomatch h1.2.2
 ·exact h
theorem papL_nodup (zs : List Raw) (q : ByteArray) : (papL zs q).Nodup:=by
 have : ∀ (zs : List Raw) (l : List ByteArray),l.Nodup→(zs.foldl (papZ q) l).Nodup:=by
  intro zs
  induction zs with
  | nil=>intro l h; exact h
  | cons z zs ih=>intro l h; rw [List.foldl_cons]; exact ih _ (papZ_nodup h)
 exact this zs [] (by simp)
theorem papZ_same {q : ByteArray} {l : List ByteArray} {z : Raw} (h : z.1.by_ = q) (hq : q.size≠0) : papZ q l z = if memB z.1.paper l = true then l else l ++ [z.1.paper]:=by
 unfold papZ
 cases hm : memB z.1.paper l <;> simp [h,hq]
theorem papZ_other {q : ByteArray} {l : List ByteArray} {z : Raw} (h : z.1.by_≠q) : papZ q l z = l:=by
 unfold papZ; rw [if_neg (fun e=>h e.1)]
theorem papZ_none {q : ByteArray} {l : List ByteArray} {z : Raw} (h : z.1.by_.size = 0) : papZ q l z = l:=by
 unfold papZ; rw [if_neg (fun e=>e.2.1 (by rw [← e.1]; exact h))]

structure Help2 where
 by_ : ByteArray
 papers : Int
structure HelpIs (zs : List Raw) (hs : List Help2) : Prop where
 rises : hs.Pairwise fun x y=>Op.bytesLess x.by_.toList y.by_.toList = true
 each : ∀ h ∈ hs,papL zs h.by_≠[]∧h.papers = ((papL zs h.by_).length : Int)
 all : ∀ q,papL zs q≠[]→∃ h ∈ hs,h.by_ = q
theorem HelpIs.mem {zs : List Raw} {a b : List Help2} (ha : HelpIs zs a) (hb : HelpIs zs b) {x : Help2} (hx : x ∈ a) : x ∈ b:=by
 obtain ⟨h1,h2⟩:=ha.each x hx;obtain ⟨y,hy,hyx⟩:=hb.all x.by_ h1;have h3:=(hb.each y hy).2;have e : y = x:=by
  cases x; cases y
  simp only at *;subst hyx;rw [h2,h3]
 rw [← e]; exact hy
theorem rises_eq {α : Type} {lt : α→α→Prop} (irr : ∀ x,¬ lt x x) (tr : ∀ x y z,lt x y→lt y z→lt x z) : ∀ {a b : List α},a.Pairwise lt→b.Pairwise lt→(∀ x,x ∈ a ↔ x ∈ b)→a = b
 | [],[],_,_,_=>rfl
 | [],y :: b,_,_,h=>absurd ((h y).2 (by simp)) (by simp)
 | x :: a,[],_,_,h=>absurd ((h x).1 (by simp)) (by simp)
 | x :: a,y :: b,h1,h2,h=>by
  obtain ⟨a1,a2⟩:=List.pairwise_cons.1 h1;obtain ⟨b1,b2⟩:=List.pairwise_cons.1 h2;have e : x = y:=by
   rcases List.mem_cons.1 ((h x).1 (by simp)) with hx | hx
   ·exact hx
   ·rcases List.mem_cons.1 ((h y).2 (by simp)) with hy | hy
    ·exact hy.symm
    ·exact absurd (tr _ _ _ (a1 y hy) (b1 x hx)) (irr x)
  subst e;refine congrArg (x :: ·) (rises_eq irr tr a2 b2 (fun z=>⟨fun hz=>?_,fun hz=>?_⟩))
  ·rcases List.mem_cons.1 ((h z).1 (by simp [hz])) with e | e
   ·subst e; exact absurd (a1 _ hz) (irr _)
   ·exact e
  ·rcases List.mem_cons.1 ((h z).2 (by simp [hz])) with e | e
   ·subst e; exact absurd (b1 _ hz) (irr _)
   ·exact e
theorem HelpIs.eq {zs : List Raw} {a b : List Help2} (ha : HelpIs zs a) (hb : HelpIs zs b) : a = b :=
 rises_eq (lt:=fun x y : Help2=>Op.bytesLess x.by_.toList y.by_.toList = true) (fun x=>by rw [bl_irrefl]; simp) (fun _ _ _=>bl_trans) ha.rises hb.rises (fun _=>⟨ha.mem hb,hb.mem ha⟩)

def wrongB (s : Set7) (r : Rev) : Bool:=inP s.barred r.paper r.by_ || authB s.papers r.paper r.by_
def wrongL (s : Set7) (xs : List Rev) : List Int:=(xs.filter (wrongB s)).map (·.no)
theorem wrongL_len (s : Set7) (xs : List Rev) : (wrongL s xs).length≤xs.length:=by rw [wrongL,List.length_map]; exact List.length_filter_le _ _
theorem isKey_size {p : ByteArray} (h : isKeyB p = true) : p.size≠0:=by
 intro h0;(have h1 : ¬ isKey p:=fun hk=>by have:=hk.2.1; omega);rw [isKeyB_false h1] at h;exact nomatch h
theorem orderG_keys : ∀ (l seen : List ByteArray),orderG seen l = 0→∀ a ∈ l,isKeyB a = true
 | [],_,_,_,ha=>nomatch ha
 | p :: l,seen,h,a,ha=>by
  rw [orderG_cons] at h
  cases hk : isKeyB p with
  | false=>rw [if_pos hk] at h; omega
  | true =>
   rw [if_neg (by simp [hk])] at h;split at h
   ·omega
   ·rcases List.mem_cons.1 ha with rfl | ha
    ·exact hk
    ·exact orderG_keys l _ h a ha
theorem papF_keys {prev : Option ByteArray} {p : Pap} (h : papF prev p = 0) : ∀ a ∈ p.authors,isKeyB a = true:=by
 unfold papF at h;split at h
 ·omega
 split at h
 ·omega
 split at h
 ·omega
 split at h
 ·omega
 split at h
 ·rename_i h1; exact absurd h h1
 ·rename_i h1; exact orderG_keys _ _ (Classical.not_not.1 h1)
theorem papersG_keys : ∀ (l : List Pap) (prev : Option ByteArray),papersG prev l = 0→∀ p ∈ l,∀ a ∈ p.authors,isKeyB a = true
 | [],_,_,_,hp=>nomatch hp
 | x :: l,prev,h,p,hp=>by
  rw [papersG_cons] at h;split at h
  ·rename_i h0; exact absurd h h0
  ·rename_i h0
   rcases List.mem_cons.1 hp with rfl | hp
   ·exact papF_keys (Classical.not_not.1 h0)
   ·exact papersG_keys l _ h p hp
theorem pairF_keys {prev : Option Pair2} {p : Pair2} (h : pairF prev p = 0) : isKeyB p.paper = true∧isKeyB p.person = true:=by
 unfold pairF at h;split at h
 ·omega
 split at h
 ·omega
 ·rename_i h1 h2
  exact ⟨by simpa using h1,by simpa using h2⟩
theorem pairsG_keys : ∀ (l : List Pair2) (prev : Option Pair2),pairsG prev l = 0→∀ p ∈ l,isKeyB p.paper = true∧isKeyB p.person = true
 | [],_,_,_,hp=>nomatch hp
 | x :: l,prev,h,p,hp=>by
  rw [pairsG_cons] at h;split at h
  ·rename_i h0; exact absurd h h0
  ·rename_i h0
   rcases List.mem_cons.1 hp with rfl | hp
   ·exact pairF_keys (Classical.not_not.1 h0)
   ·exact pairsG_keys l _ h p hp
theorem pairsF_keys {l : List Pair2} (h : pairsF l = 0) : ∀ p ∈ l,isKeyB p.paper = true∧isKeyB p.person = true:=by
 unfold pairsF at h;split at h
 ·omega
 ·exact pairsG_keys l _ h
theorem wrongB_empty {s : Set7} (h : setupF s = 0) {r : Rev} (hr : r.by_.size = 0) : wrongB s r = false:=by
 obtain ⟨-,h2,-,h4⟩:=setupF_good h;(have hk : ∀ a,isKeyB a = true→a≠r.by_:=fun a ha e=>isKey_size ha (by rw [e]; exact hr));unfold wrongB;rw [Bool.or_eq_false_iff];constructor
 ·unfold inP;rw [List.any_eq_false];intro q hq;have:=(pairsF_keys (listF_pairs0 h4) q hq).2;simp only [decide_eq_true_eq,not_and];exact fun _ e=>hk _ this e
 ·unfold authB papOf
  cases hx : s.papers.find? (isPap r.paper) with
  | none=>rfl
  | some x =>
   have hxm:=List.mem_of_find?_eq_some hx;unfold papersF at h2;split at h2
   ·omega
   ·cases hm : memB r.by_ x.authors with
    | false=>exact hm
    | true=>exact absurd rfl (hk _ (papersG_keys _ _ h2 x hxm _ (memB_iff.1 hm)))
end Go.Proofs.YtjbaijgdkkccbaaGreatDoor

/- The keys of a map, sorted. No program in sight. -/
namespace Go.Proofs.YtjbaijgdkkccbaaGreatDoor
open Go.RowKit
open Go.Maps (Keyed IsMap)

theorem tl_toList (s : ByteArray) : s.toList = s.data.toList:=tl_data s
theorem bl_lt (x y : ByteArray) : Op.bytesLess x.toList y.toList = decide (x.data.toList < y.data.toList):=by
 rw [tl_toList,tl_toList,Go.Proofs.bytesLess_eq]
def sortL (ss : List (List UInt8)) : List ByteArray:=(ss.mergeSort fun x y=>decide (x≤y)).map fun l=>⟨l.toArray⟩
theorem sortL_len (ss : List (List UInt8)) : (sortL ss).length = ss.length:=by simp [sortL]
theorem sortL_mem {ss : List (List UInt8)} {s : ByteArray} : s ∈ sortL ss ↔ s.data.toList ∈ ss:=by
 unfold sortL;rw [List.mem_map];constructor
 ·rintro ⟨l,hl,rfl⟩;rw [List.mem_mergeSort] at hl;exact hl
 ·intro h;exact ⟨s.data.toList,by rw [List.mem_mergeSort]; exact h,by simp⟩
theorem sortL_rises {ss : List (List UInt8)} (hn : ss.Nodup) : (sortL ss).Pairwise fun x y=>Op.bytesLess x.toList y.toList = true:=by
 unfold sortL;rw [List.pairwise_map];(have tr : ∀ a b c : List UInt8,(decide (a≤b)) = true→(decide (b≤c)) = true→(decide (a≤c)) = true:=fun a b c h1 h2=>by simp only [decide_eq_true_eq] at *; exact List.le_trans h1 h2);(have tot : ∀ a b : List UInt8,(decide (a≤b) || decide (b≤a)) = true:=fun a b=>by simp only [Bool.or_eq_true,decide_eq_true_eq]; exact List.le_total a b);have h1:=List.pairwise_mergeSort tr tot ss;have h2 : (ss.mergeSort fun x y=>decide (x≤y)).Nodup:=(List.mergeSort_perm ss _).nodup_iff.2 hn;(refine (h1.and h2).imp fun {a b} hab=>?_);rw [bl_lt];simp only [decide_eq_true_eq];(have h3 : a≤b:=by simpa using hab.1);exact List.not_le.1 fun h4=>hab.2 (List.le_antisymm h3 h4)

theorem Acc.ofStrs {T : TypeId} {F : Nat→Prop} {B : Nat} {w : World} {v : Value} {ss : List ByteArray} (ho : w.ownsRow B T 1 v ss.length (ss.map Value.string)) (hz : ∀ s ∈ ss,s.size≤1000000) : Acc RStr 1 T F B w v ss:=by
 refine ⟨_,ho,fun i hi=>⟨?_,hz _ (List.getElem_mem hi)⟩⟩;(have hi' : i < (ss.map Value.string).length:=by simpa using hi);rw [Nat.mul_one,List.drop_eq_getElem_cons hi',List.take_succ_cons,List.take_zero,List.getElem_map]
section
variable {P : Program} {k : TypeId} {w : World} {b n : Nat} {m : ByteArray→Option Value}
theorem MapS.keysOut (h : MapS P k w b n m) (hk : P.underlying k = some .string) :
  ∃ D : DataW Value,w.ownsMap P k heldR b n D∧Maps.size D≤n∧∀ ss : List (List UInt8),ss.Perm (strKeys D)→ss.length≤n∧(sortL ss).Pairwise (fun x y=>Op.bytesLess x.toList y.toList = true)∧∀ s : ByteArray,s ∈ sortL ss ↔ (m s).isSome = true:=by
 obtain ⟨D,h1,h3⟩:=h;refine ⟨D,h1,h1.size_le,fun ss hp=>?_⟩;have K : Keyed P k:=Go.Maps.string_keyed hk;obtain ⟨es,hD,hpw,-⟩:=h1.entries K;obtain ⟨es',hD',hko⟩:=h1.keysOf;(obtain rfl : es = es':=by rw [hD] at hD'; simpa using hD');have hstr : ∀ p ∈ es,∃ x,p.1 = .string x:=fun p hp=>by
  obtain ⟨v,hv⟩:=hko p hp;obtain ⟨x,_,hx,_⟩:=Maps.keyOf_str hk hv;exact ⟨x,hx⟩
 have hnd : (strKeys D).Nodup:=by
  rw [hD];show (es.map fun p=>strOf p.1).Nodup
  refine List.pairwise_map.2 (hpw.imp_of_mem fun {p q} hp' hq' hne e=>hne ?_);obtain ⟨a,ha⟩:=hstr p hp';obtain ⟨b,hb⟩:=hstr q hq';rw [ha,hb] at e ⊢;exact congrArg _ e
 have hmem : ∀ x : List UInt8,x ∈ strKeys D ↔ Maps.has D (.string x) = true:=fun x=>by
  rw [hD,Go.Maps.has_eq,List.any_eq_true];show x ∈ es.map (fun p=>strOf p.1) ↔ _
  rw [List.mem_map];constructor
  ·rintro ⟨p,hp',rfl⟩;obtain ⟨a,ha⟩:=hstr p hp';exact ⟨p,hp',by rw [ha]; simp [Lit.sameKey,strOf]⟩
  ·rintro ⟨p,hp',hs⟩;obtain ⟨a,ha⟩:=hstr p hp';rw [ha] at hs;exact ⟨p,hp',by rw [ha]; simpa [Lit.sameKey,strOf] using hs⟩
 refine ⟨?_,sortL_rises (hp.nodup_iff.2 hnd),fun s=>?_⟩
 ·rw [hp.length_eq];have hs:=h1.size_le;rw [hD] at hs ⊢;simpa [strKeys,Maps.size] using hs
 ·rw [sortL_mem,hp.mem_iff,hmem,(h3 s).1]
end
end Go.Proofs.YtjbaijgdkkccbaaGreatDoor

/- A map of sets of the call's own: who helped with which papers. The length of a map. -/
namespace Go.Proofs.YtjbaijgdkkccbaaGreatDoor
open Go.RowKit
open Go.Maps (Keyed IsMap)

theorem nodup_length {a b : List ByteArray} (ha : a.Nodup) (hb : b.Nodup) (h : ∀ x,x ∈ a ↔ x ∈ b) : a.length = b.length :=
 ((List.perm_ext_iff_of_nodup ha hb).2 h).length_eq
theorem rises_nodup {ks : List ByteArray} (h : ks.Pairwise fun x y=>Op.bytesLess x.toList y.toList = true) : ks.Nodup :=
 h.imp fun {a b} hab e=>by rw [e,bl_irrefl] at hab; exact nomatch hab
theorem MapS.len {P : Program} {k e t : TypeId} {w : World} {b n : Nat} {m : ByteArray→Option Value} (h : MapS P k w b n m) (hk : P.underlying k = some .string) (ht : P.underlying t = some (.map k e)) (ty : TypeId) {L : List ByteArray} (hL : L.Nodup) (hm : ∀ s,s ∈ L ↔ (m s).isSome = true) :
  (Builtin.len_ #[t] ty #[.map (some b)]).run P w = .ok (.int .i64 (L.length : Int)) w:=by
 obtain ⟨D,hown,-,hks⟩:=h.keysOut hk;obtain ⟨-,h2,h3⟩:=hks _ (List.Perm.refl _);have e1 : (sortL (strKeys D)).length = L.length:=nodup_length (rises_nodup h2) hL (fun s=>by rw [h3,hm]);rw [sortL_len] at e1;rw [hown.len ht ty,← e1];obtain ⟨es,clock,-,-,-,rfl⟩:=hown;simp [Maps.size,strKeys]

def innerV (l : List ByteArray) : ByteArray→Option Value:=fun p=>if memB p l = true then some (.bool true) else none
def outerV (ib : ByteArray→Nat) (zs : List Raw) : ByteArray→Option Value:=fun q=>if papL zs q = [] then none else some (.map (some (ib q)))
structure HelpM (w : World) (B mb n : Nat) (ib : ByteArray→Nat) (zs : List Raw) : Prop where
 outer : MapS Tryz.prog 9 w mb n (outerV ib zs)
 inner : ∀ q,papL zs q≠[]→MapS Tryz.prog 9 w (ib q) n (innerV (papL zs q))
 base : ∀ q,papL zs q≠[]→B≤ib q
 mbB : mb < B
 sep : ∀ q r,q≠r→papL zs q≠[]→papL zs r≠[]→ib q≠ib r
section
variable {w w' : World} {B mb n : Nat} {ib : ByteArray→Nat} {zs : List Raw} {z : Raw}
theorem HelpM.start (h : MapS Tryz.prog 9 w mb 0 (fun _=>none)) (hB : mb < B) : HelpM w B mb 0 (fun _=>0) [] :=
 ⟨h.congr (fun _=>rfl),fun _ h=>absurd rfl h,fun _ h=>absurd rfl h,hB,fun _ _ _ h=>absurd rfl h⟩
theorem HelpM.keep (h : HelpM w B mb n ib zs) (k : All w w') : HelpM w' B mb n ib zs :=
 ⟨h.outer.keep k trivial,fun q hq=>(h.inner q hq).keep k trivial,h.base,h.mbB,h.sep⟩
theorem HelpM.skip (h : HelpM w B mb n ib zs) (hz : z.1.by_.size = 0) : HelpM w B mb n ib (zs ++ [z]):=by
 (have e : ∀ q,papL (zs ++ [z]) q = papL zs q:=fun q=>by rw [papL,List.foldl_append]; exact papZ_none hz);refine ⟨h.outer.congr (fun q=>by simp only [outerV,e]),fun q hq=>?_,fun q hq=>h.base q (by rw [← e]; exact hq),h.mbB,fun q r hqr hq hr=>h.sep q r hqr (by rw [← e]; exact hq) (by rw [← e]; exact hr)⟩;rw [e] at hq ⊢;exact h.inner q hq
theorem HelpM.look (h : HelpM w B mb n ib zs) (q : ByteArray) (hq : q.size≤1000000) :
  (Instr.lookup 115 (.map (some mb)) (.string q) false).run Tryz.prog w = .ok (if papL zs q = [] then .map none else .map (some (ib q))) w:=by
 rw [h.outer.look Tryz.underlying9 Tryz.underlying115 (Tryz.zeroValue117 w) q hq];unfold outerV;split <;> rfl
theorem HelpM.innerLen (h : HelpM w B mb n ib zs) {q : ByteArray} (hq : papL zs q≠[]) (ty : TypeId) :
  (Builtin.len_ #[117] ty #[.map (some (ib q))]).run Tryz.prog w = .ok (.int .i64 ((papL zs q).length : Int)) w :=
 (h.inner q hq).len Tryz.underlying9 Tryz.underlying117 ty (papL_nodup zs q) (fun s=>by
  unfold innerV;by_cases hs : memB s (papL zs q) = true
  ·simp [hs,memB_iff.1 hs]
  ·(have : s ∉ papL zs q:=fun e=>hs (memB_true e));simp [hs,this])
theorem papL_app (zs : List Raw) (z : Raw) (q : ByteArray) : papL (zs ++ [z]) q = papZ q (papL zs q) z:=by rw [papL,List.foldl_append]; rfl
theorem innerV_put (l : List ByteArray) (p x : ByteArray) : putS (innerV l) p (.bool true) x = innerV (if memB p l = true then l else l ++ [p]) x:=by
 unfold putS innerV;by_cases hx : x = p
 ·subst hx;by_cases hm : memB x l = true
  ·simp [hm]
  ·rw [if_pos rfl,if_neg hm,memB_true (by simp),if_pos rfl]
 ·rw [if_neg hx];by_cases hm : memB p l = true
  ·rw [if_pos hm]
  ·rw [if_neg hm];have e : memB x (l ++ [p]) = memB x l:=by
    unfold memB;rw [List.any_append];(have hd : decide (p = x) = false:=by simpa using fun e=>hx e.symm);simp [hd]
   rw [e]
theorem HelpM.old (h : HelpM w B mb n ib zs) (hb : z.1.by_.size≠0) (hp : z.1.paper.size≤1000000) (hn : n≤1000000) (hne : papL zs z.1.by_≠[]) :
  ∃ w',(Instr.mapUpdate 117 (.map (some (ib z.1.by_))) (.string z.1.paper) (.bool true)).run Tryz.prog w = .ok () w'∧HelpM w' B mb (n+1) ib (zs ++ [z])∧Kept (fun k=>k < B) w w':=by
 obtain ⟨w',hrun,h1,hk⟩:=(h.inner _ hne).put Tryz.underlying9 Tryz.underlying117 hn _ hp (.bool true);(have hself : papL (zs ++ [z]) z.1.by_ = if memB z.1.paper (papL zs z.1.by_) = true then papL zs z.1.by_ else papL zs z.1.by_ ++ [z.1.paper]:=by rw [papL_app,papZ_same rfl hb]);(have hoth : ∀ q,q≠z.1.by_→papL (zs ++ [z]) q = papL zs q:=fun q hq=>by rw [papL_app,papZ_other (fun e=>hq e.symm)]);have hemp : ∀ q,papL (zs ++ [z]) q = [] ↔ papL zs q = []:=fun q=>by
  by_cases hq : q = z.1.by_
  ·rw [hq,hself];split
   ·exact Iff.rfl
   ·simp [hne]
  ·rw [hoth q hq]
 have hb1:=h.base _ hne;have hmB:=h.mbB;refine ⟨w',hrun,⟨((h.outer.keep hk (by omega)).up (Nat.le_succ _)).congr (fun q=>by simp only [outerV,hemp]),fun q hq=>?_,fun q hq=>h.base q (fun e=>hq ((hemp q).2 e)),h.mbB,fun q r hqr hq hr=>h.sep q r hqr (fun e=>hq ((hemp q).2 e)) (fun e=>hr ((hemp r).2 e))⟩,hk.mono (fun k hk e=>by omega)⟩;by_cases he : q = z.1.by_
 ·subst he;rw [hself];exact h1.congr (fun x=>innerV_put _ _ x)
 ·(have hq' : papL zs q≠[]:=fun e=>hq ((hemp q).2 e));rw [hoth q he];exact ((h.inner q hq').keep hk (fun e=>h.sep q _ he hq' hne e)).up (Nat.le_succ _)
theorem HelpM.fresh (h : HelpM w B mb n ib zs) (hb : z.1.by_.size≠0) (hp : z.1.paper.size≤1000000) (hbz : z.1.by_.size≤1000000) (hn : n≤1000000) (hBs : B≤w.heap.size) (hne : papL zs z.1.by_ = []) :
  ∃ w2 w3,(Instr.mapUpdate 115 (.map (some mb)) (.string z.1.by_) (.map (some w.heap.size))).run Tryz.prog (w.alloc (.map #[] 0)) = .ok () w2 ∧
   (Instr.lookup 115 (.map (some mb)) (.string z.1.by_) false).run Tryz.prog w2 = .ok (.map (some w.heap.size)) w2 ∧
   (Instr.mapUpdate 117 (.map (some w.heap.size)) (.string z.1.paper) (.bool true)).run Tryz.prog w2 = .ok () w3∧HelpM w3 B mb (n+1) (fun q=>if q = z.1.by_ then w.heap.size else ib q) (zs ++ [z])∧But mb w w2∧But mb w w3:=by
 have hmb:=h.outer.lt;have hmB:=h.mbB;obtain ⟨w2,hrun2,ho2,hk2⟩:=(h.outer.keep (Kept.alloc (fun _=>True) w (.map #[] 0)) trivial).put Tryz.underlying9 Tryz.underlying115 hn _ hbz (.map (some w.heap.size));have hi1:=MapS.made Tryz.prog 9 w;obtain ⟨w3,hrun3,hi3,hk3⟩:=(hi1.keep hk2 (by omega)).put Tryz.underlying9 Tryz.underlying117 (by omega) _ hp (.bool true);(have hself : papL (zs ++ [z]) z.1.by_ = [z.1.paper]:=by rw [papL_app,papZ_same rfl hb,hne]; rfl);(have hoth : ∀ q,q≠z.1.by_→papL (zs ++ [z]) q = papL zs q:=fun q hq=>by rw [papL_app,papZ_other (fun e=>hq e.symm)]);have hkw2 : But mb w w2:=((Kept.alloc (fun _=>True) w (.map #[] 0)).mono (fun _ _=>trivial)).trans hk2;refine ⟨w2,w3,hrun2,?_,hrun3,⟨?_,fun q hq=>?_,fun q hq=>?_,hmB,fun q r hqr hq hr=>?_⟩,hkw2,hkw2.trans2 hk3 (fun k hk hkB e=>by omega)⟩
 ·rw [ho2.look Tryz.underlying9 Tryz.underlying115 (Tryz.zeroValue117 w2) _ hbz,putS_same]; rfl
 ·refine (ho2.keep hk3 (by omega)).congr (fun q=>?_);unfold putS outerV;by_cases hq : q = z.1.by_
  ·subst hq; rw [if_pos rfl,hself]; simp
  ·rw [if_neg hq,hoth q hq]; simp only [if_neg hq]
 ·by_cases he : q = z.1.by_
  ·subst he;simp only [if_true];rw [hself];refine (hi3.up (by omega)).congr (fun x=>?_);(have h0 : innerV [] = fun _=>none:=rfl);have:=innerV_put [] z.1.paper x;rw [h0] at this;simpa [innerV,memB] using this
  ·simp only [if_neg he];rw [hoth q he] at hq ⊢;have hlt:=(h.inner q hq).lt;exact ((((h.inner q hq).keep (Kept.alloc (fun _=>True) w (.map #[] 0)) trivial).keep hk2 (by have:=h.base q hq; omega)).keep hk3 (by omega)).up (Nat.le_succ _)
 ·by_cases he : q = z.1.by_
  ·simp only [if_pos he]; omega
  ·simp only [if_neg he]; rw [hoth q he] at hq; exact h.base q hq
 ·by_cases he : q = z.1.by_
  ·(have her : r≠z.1.by_:=fun e=>hqr (he.trans e.symm));simp only [if_pos he,if_neg her];rw [hoth r her] at hr;have:=(h.inner r hr).lt;omega
  ·by_cases her : r = z.1.by_
   ·simp only [if_neg he,if_pos her];rw [hoth q he] at hq;have:=(h.inner q hq).lt;omega
   ·simp only [if_neg he,if_neg her];rw [hoth q he] at hq;rw [hoth r her] at hr;exact h.sep q r hqr hq hr
end
end Go.Proofs.YtjbaijgdkkccbaaGreatDoor

/- Helpers, walked. -/
namespace Go.Proofs.YtjbaijgdkkccbaaGreatDoor
open Go.RowKit

theorem all_butH {w w2 w3 : World} {ob : Nat} (h : All w w2) (hb : But ob w2 w3) (hle : w.heap.size≤ob) : All w w3 :=
 ⟨hb.os.trans h.os,hb.tape.trans h.tape,hb.output.trans h.output,Nat.le_trans h.size hb.size,fun q hq _=>(hb.block q (Nat.lt_of_lt_of_le hq h.size) (by omega)).trans (h.block q hq trivial)⟩
def HelpSmall (x : Help2) : Prop:=x.by_.size≤1000000
def encHelp (x : Help2) : List Value:=[.string x.by_,.int .i64 x.papers]
def RHelp : Rel Help2:=fun _ _ vs x=>vs = encHelp x∧HelpSmall x
theorem flatHelp : Flat RHelp encHelp HelpSmall 2 :=
 ⟨fun _ _ _ _=>Iff.rfl,fun _=>rfl,by decide,fun x u hu=>by simp [encHelp] at hu; rcases hu with rfl | rfl <;> rfl⟩
theorem RHelp.ok : RHelp.Ok:=Flat.ok flatHelp
theorem Sl.atHelp {F : Nat→Prop} {w : World} {a : Option Addr} {len : Nat} {xs : List Help2} (h : Sl RHelp 2 F w a len xs) {k : Nat} (hk : k < len) :
  ∃ b off x,a = some ⟨b,off,none⟩∧F b∧w.cell? ⟨b,off+k*2,none⟩ = some (.string x.by_)∧w.cell? ⟨b,off+k*2+1,none⟩ = some (.int .i64 x.papers)∧HelpSmall x∧xs[k]? = some x∧xs.take (k+1) = xs.take k ++ [x]:=by
 obtain ⟨b,off,vs,x,ha,hF,h1,h2,⟨rfl,hsm⟩,h4,h5,h6⟩:=h.at hk;exact ⟨b,off,x,ha,hF,(h2 0 (by simp [encHelp])).trans rfl,(h2 1 (by simp [encHelp])).trans rfl,hsm,h4,h6⟩
theorem helpSl {B : Nat} {w : World} {v : Value} {xs : List Help2} (h : Acc RHelp 2 62 (fun _=>False) B w v xs) : ∃ (p : Option Addr) (c : Nat),v = .slice p xs.length c∧Sl RHelp 2 (fun _=>True) w p xs.length xs:=by
 obtain ⟨p,c,hv,h1⟩:=h.sl RHelp.ok (by decide) (G:=fun _=>True) (fun _ h=>h.elim) (fun _ _=>trivial);exact ⟨p,c,hv,h1⟩
def HelpV (er : Int) (zs : List Raw) (e : Ending) (w' : World) : Prop :=
 (er = 0→∃ (p : Option Addr) (c : Nat) (hs : List Help2),e = .returned (.tuple #[.slice p hs.length c,.int .i64 0])∧HelpIs zs hs∧hs.length≤zs.length∧Sl RHelp 2 (fun _=>True) w' p hs.length hs)∧(er≠0→e = .returned (.tuple #[.slice none 0 0,.int .i64 er]))
theorem HelpV.bad {er : Int} {zs : List Raw} {w' : World} (h : er≠0) : HelpV er zs (.returned (.tuple #[.slice none 0 0,.int .i64 er])) w':=⟨fun h0=>absurd h0 h,fun _=>rfl⟩
def helpsOf (zs : List Raw) (ks : List ByteArray) : List Help2:=ks.map fun q=>⟨q,((papL zs q).length : Int)⟩
theorem helpsOf_snoc {zs : List Raw} {ks : List ByteArray} {k : Nat} {q : ByteArray} (h : ks.take (k+1) = ks.take k ++ [q]) : helpsOf zs (ks.take (k+1)) = helpsOf zs (ks.take k) ++ [⟨q,((papL zs q).length : Int)⟩]:=by
 rw [h,helpsOf,List.map_append]; rfl
theorem helpsOf_is {zs : List Raw} {ks : List ByteArray} (h1 : ks.Pairwise fun x y=>Op.bytesLess x.toList y.toList = true) (h2 : ∀ q,q ∈ ks ↔ papL zs q≠[]) : HelpIs zs (helpsOf zs ks):=by
 refine ⟨?_,fun h hh=>?_,fun q hq=>⟨⟨q,_⟩,List.mem_map.2 ⟨q,(h2 q).2 hq,rfl⟩,rfl⟩⟩
 ·rw [helpsOf,List.pairwise_map]; exact h1
 ·obtain ⟨q,hq,rfl⟩:=List.mem_map.1 hh;exact ⟨(h2 q).1 hq,rfl⟩
theorem papL_by {zs : List Raw} {q : ByteArray} (h : papL zs q≠[]) : ∃ z ∈ zs,z.1.by_ = q:=by
 apply Classical.byContradiction
 intro hn;apply h
 have : ∀ (zs : List Raw) (l : List ByteArray),(∀ z ∈ zs,z.1.by_≠q)→zs.foldl (papZ q) l = l:=by
  intro zs
  induction zs with
  | nil=>intro l _; rfl
  | cons z zs ih=>intro l hz; rw [List.foldl_cons,papZ_other (hz z (by simp)),ih l (fun y hy=>hz y (by simp [hy]))]
 exact this zs [] (fun z hz e=>hn ⟨z,hz,e⟩)
theorem keys_len {zs : List Raw} {ks : List ByteArray} (hn : ks.Nodup) (h : ∀ q,q ∈ ks→papL zs q≠[]) : ks.length≤zs.length:=by
 have h1 : ks ⊆ zs.map (·.1.by_):=fun q hq=>by
  obtain ⟨z,hz,e⟩:=papL_by (h q hq);exact List.mem_map.2 ⟨z,hz,e⟩
 have:=hn.length_le_of_subset h1;simpa using this
theorem sortedKeysH_any {n : Nat} (b : Nat) (m : ByteArray→Option Value) (w : World) (h : MapS Tryz.prog 9 w b n m) (hn : n≤1000000) (hz : ∀ s,(m s).isSome = true→s.size≤1000000) :
  Calls Tryz.prog 71 #[.func (.func 149) #[] #[.pointer (some ⟨w.heap.size,0,none⟩)]] (w.alloc (.cells #[.map (some b)] 115)) fun e w' =>
   ∃ p c ks,e = .returned (.slice p ks.length c)∧ks.Pairwise (fun x y=>Op.bytesLess x.toList y.toList = true)∧(∀ s,s ∈ ks ↔ (m s).isSome = true)∧Sl RStr 1 (fun _=>True) w' p ks.length ks∧All w w':=by
 obtain ⟨D,hown,hsz,hk⟩:=h.keysOut Tryz.underlying9;refine (callsIn_wide.1 (Tryz.slices_Sorted_keys_71_72 b n D heldR w hown (by unfold maxLen; omega) (by omega))).mono ?_;rintro e w' ⟨v,ss,rfl,hp,hrow,-,hb⟩;obtain ⟨hl,hr,hm⟩:=hk ss hp;(have he : (sortL ss).map Value.string = (ss.mergeSort fun x y=>decide (x≤y)).map Go.Proofs.encStr:=by simp [sortL,Go.Proofs.encStr]);have hacc : Acc RStr 1 9 (fun _=>False) (w.alloc (.cells #[.map (some b)] 115)).heap.size w' v (sortL ss):=Acc.ofStrs (by rw [he,sortL_len]; exact hrow) (fun s hs=>hz s ((hm s).1 hs));obtain ⟨p,c,rfl,hs⟩:=hacc.sl RStr.ok (by decide) (G:=fun _=>True) (fun _ h=>h.elim) (fun _ _=>trivial);exact ⟨p,c,sortL ss,rfl,hr,hm,hs,(Kept.alloc _ _ _).trans (Kept.of_below hb)⟩
set_option maxRecDepth 100000 in
set_option maxHeartbeats 12800000 in
theorem helpers_any (a0 : Option Addr) (l0 c0 : Nat) (a1 : Option Addr) (l1 c1 : Nat) (a2 : Option Addr) (l2 c2 : Nat) (a3 : Option Addr) (l3 c3 : Nat) (a4 : Option Addr) (l4 c4 : Nat) (s : Set7) (al : Option Addr) (ll cl : Nat) (xs : List Rev) (ts : List Raw) (tm : Int) (w : World) (his : SetIs (fun _=>True) w a0 l0 a1 l1 a2 l2 a3 l3 a4 l4 s) (hsx : Sl RRev 7 (fun _=>True) w al ll xs) (hst : Sl RRaw 7 (fun _=>True) w al ll ts) (hsm : ∀ z ∈ ts,RevSmall z.1) (hl : ll≤1000000) (hlc : ll≤cl) (hl2 : l2≤1000) (hg : Glob w) :
  Calls Tryz.prog 24 #[.agg #[.slice a0 l0 c0,.slice a1 l1 c1,.slice a2 l2 c2,.slice a3 l3 c3,.slice a4 l4 c4,.int .i64 s.due,.int .i64 s.reply],.slice al ll cl,.int .i64 tm] w fun e w'=>HelpV (atE s xs tm) (doneL ts tm s.pairs) e w'∧All w w':=by
 have hk1 : All w (w.alloc (.cells #[.slice a0 l0 c0,.slice a1 l1 c1,.slice a2 l2 c2,.slice a3 l3 c3,.slice a4 l4 c4,.int .i64 s.due,.int .i64 s.reply] 31)):=Kept.alloc _ _ _;have hb:=heap_at w (.cells #[.slice a0 l0 c0,.slice a1 l1 c1,.slice a2 l2 c2,.slice a3 l3 c3,.slice a4 l4 c4,.int .i64 s.due,.int .i64 s.reply] 31) _ rfl;obtain ⟨bb,hbb⟩ : ∃ b,b = w.heap.size:=⟨_,rfl⟩;have HBB:=Lib.hid hbb;rw [← hbb] at hb;have HAK:=Lib.hid (at_any a0 l0 c0 a1 l1 c1 a2 l2 c2 a3 l3 c3 a4 l4 c4 s al ll cl xs ts tm _ (his.keep hk1) (hsx.keep RRev.ok hk1) (hst.keep RRaw.ok hk1) hl hlc (hg.keep hk1));have HIS:=Lib.hid (fun (wx : World) (k : All (w.alloc (.cells #[.slice a0 l0 c0,.slice a1 l1 c1,.slice a2 l2 c2,.slice a3 l3 c3,.slice a4 l4 c4,.int .i64 s.due,.int .i64 s.reply] 31)) wx)=>his.keep (hk1.trans k));(have HTL : ts.length≤1000000:=by have:=hst.len; omega);have HSM:=Lib.hid hsm;have HN2:=Lib.hid his.pairs.len;obtain ⟨er,her⟩ : ∃ z,z = atE s xs tm:=⟨_,rfl⟩;rw [← her] at HAK ⊢;obtain ⟨zs,hzs⟩ : ∃ z,z = doneL ts tm s.pairs:=⟨_,rfl⟩;have HZS:=Lib.hid hzs;have HZL:=Lib.hid (show zs.length≤s.pairs.length from by rw [hzs]; exact doneL_len _ _ _);have HZM:=Lib.hid (fun (z : Raw) (hz : z ∈ zs)=>(show z ∈ ts from by rw [hzs] at hz; obtain ⟨p,-,hp⟩:=List.mem_filterMap.1 hz; exact lastO_mem hp));rw [← hzs];have HK1:=Lib.hid hk1;have e0:=cell_at (i:=0) hb rfl;have e1:=cell_at (i:=1) hb rfl;have e2:=cell_at (i:=2) hb rfl;have e3:=cell_at (i:=3) hb rfl;have e4:=cell_at (i:=4) hb rfl;have e5:=cell_at (i:=5) hb rfl;have e6:=cell_at (i:=6) hb rfl;clear her hzs hbb hb his hsx hst hsm hg hk1;(go_enter Tryz.func24,Tryz.ntmps24);(go_upto_region 1 with fail);simp only [← HBB.out];generalize w.alloc (.cells #[.slice a0 l0 c0,.slice a1 l1 c1,.slice a2 l2 c2,.slice a3 l3 c3,.slice a4 l4 c4,.int .i64 s.due,.int .i64 s.reply] 31) = w1 at *;(go_wp2_with fail);refine (HAK.out).mono ?_;rintro e w2 ⟨hv,hw2⟩;clear e0 e1 e2 e3 e4 e5 e6;by_cases h0 : er = 0
 case neg =>
  obtain rfl:=hv.2 h0;(have hd : (er != 0) = true:=by simpa using h0);have H0:=Lib.hid h0;clear h0 hv;(go_wp2_with fail);go_ret2;exact ⟨HelpV.bad H0.out,HK1.out.trans hw2⟩
 case pos =>
  obtain ⟨kb,rfl,hbk⟩:=hv.1 h0;subst h0;have hd : ((0 : Int) != 0) = false:=rfl;have hmm:=@run_makeMap Tryz.prog;have hmp:=MapS.made Tryz.prog 9 w2;have hkm : All w2 (w2.alloc (.map #[] 0)):=Kept.alloc _ _ _;have hbk3:=hbk.keep hkm;obtain ⟨mb,hmb⟩ : ∃ q,q = w2.heap.size:=⟨_,rfl⟩;have HMB:=Lib.hid hmb;(have hmb1 : w1.heap.size≤mb:=by have:=hw2.size; omega);(have hmlt : mb < (w2.alloc (.map #[] 0)).heap.size:=by simp [hmb]);rw [← hmb] at hmp;have hw3:=hw2.trans hkm;clear hv hmb hkm hbk;(go_upto_region 5 with fail);simp only [← HMB.out];generalize w2.alloc (.map #[] 0) = w3 at *;clear hmm;have HV:=Lib.hid (bookValid_any a0 l0 c0 a1 l1 c1 a2 l2 c2 a3 l3 c3 a4 l4 c4 s kb ts HTL HSM.out tm w3 hbk3 (HIS.out _ hw3).pairs (by omega));rw [← HZS.out] at HV;clear hbk3;(go_wp2_with fail);refine (HV.out).mono ?_;rintro e w5 ⟨⟨v5,rfl,hacc⟩,hw5⟩;obtain ⟨vp,vc,rfl,hsv⟩:=rawSl hacc hmlt;have hq5:=hw3.trans hw5;have hmp5:=hmp.keep hw5 trivial;have HSV:=Lib.hid (fun (wx : World) (k : But mb w5 wx)=>hsv.keep RRaw.ok k);(have hmlt5 : mb < w5.heap.size:=by have:=hw5.size; omega);obtain ⟨nz,hnz⟩ : ∃ n,n = zs.length:=⟨_,rfl⟩;have HNZ:=Lib.hid hnz;(have hnz2 : nz≤1000:=by have:=HZL.out; have:=HN2.out; omega);rw [← hnz] at HSV ⊢;have HST:=Lib.hid (HelpM.start hmp5 hmlt5);clear hacc hsv hmp hmp5 hnz hw5 hw3 hw2;(go_wp2_with fail);go_loopw [31] (fun i wr=>∃ k : Nat,k≤nz∧i = .int .i64 k∧(∃ n ib,n≤k∧HelpM wr w5.heap.size mb n ib (zs.take k))∧But mb w5 wr) (fun i _=>nz - (intOf i).toNat)
  case atStart=>exact ⟨0,Nat.zero_le _,rfl,⟨0,_,Nat.le_refl _,HST.out⟩,Kept.refl _ _⟩
  case round =>
   obtain ⟨k,hk,rfl,⟨n,ib,hn,hm⟩,hwr⟩:=hrel;obtain ⟨wo,rfl⟩ : ∃ wo : World,wo = wr:=⟨_,rfl⟩;by_cases hlt : k < nz
   ·obtain ⟨b,off,z,ha,-,r0,r1,r2,r3,r4,r5,r6,hzsm,hzk,htk⟩:=(HSV.out _ hwr).atRaw hlt;have HA:=Lib.hid ha;have HTK:=Lib.hid htk;have hzs1 : z.1.paper.size≤1000000:=hzsm.1;have hzs2 : z.1.by_.size≤1000000:=hzsm.2.2.1;have hko : All wo (wo.alloc (.cells #[.int .i64 z.1.no,.int .i64 z.1.tm,.string z.1.paper,.string z.1.person,.string z.1.by_,.bool z.1.done,.slice z.2.1 z.1.answers.length z.2.2] 73)):=Kept.alloc _ _ _;have hblk:=heap_at wo (.cells #[.int .i64 z.1.no,.int .i64 z.1.tm,.string z.1.paper,.string z.1.person,.string z.1.by_,.bool z.1.done,.slice z.2.1 z.1.answers.length z.2.2] 73) _ rfl;obtain ⟨rb,hrb⟩ : ∃ q,q = wo.heap.size:=⟨_,rfl⟩;have HRB:=Lib.hid hrb;rw [← hrb] at hblk;(have hrm : rb≠mb:=by have:=hwr.size; omega);have hm1:=hm.keep hko;have hwl:=hwr.trans hko.all;have hszl:=hwl.size;clear htk hm hwr hko hrb hzsm hzk;subst ha;(go_upto_region 8 with fail);simp only [← HRB.out];generalize wo.alloc (.cells #[.int .i64 z.1.no,.int .i64 z.1.tm,.string z.1.paper,.string z.1.person,.string z.1.by_,.bool z.1.done,.slice z.2.1 z.1.answers.length z.2.2] 73) = wa at *;clear r0 r1 r2 r3 r4 r5 r6;have HRX:=Lib.hid (fun (wx : World) (k : But mb wa wx)=>k.heap hblk hrm);have u2:=cell_at (i:=2) hblk rfl;have u4:=cell_at (i:=4) hblk rfl;clear hblk;obtain ⟨q,hq⟩ : ∃ q,q = z.1.by_:=⟨_,rfl⟩;obtain ⟨pa,hpa⟩ : ∃ q,q = z.1.paper:=⟨_,rfl⟩;have HQ:=Lib.hid hq;have HPA:=Lib.hid hpa;rw [← hq] at u4 hzs2;rw [← hpa] at u2 hzs1;clear hq hpa;by_cases hbz : q.size = 0
    case pos =>
     have hd2:=strs_emp hbz;(have hd3 : q.toList.isEmpty = true:=by rw [toList_nil hbz]; rfl);have hfin:=Lib.hid (show HelpM wa w5.heap.size mb n ib (zs.take (k+1)) from by rw [HTK.out]; exact hm1.skip (by rw [← HQ.out]; exact hbz));clear hbz hm1 u2;(go_wp2_with fail);go_roundw
     case rel=>exact ⟨k+1,by omega,by go_num,⟨n,ib,by omega,hfin.out⟩,hwl⟩
     case measure=>simp [intOf]; omega
    case neg =>
     have hd2:=strs_nemp hbz;have hd3 : q.toList.isEmpty = false:=by
      have:=toList_ne hbz
      cases hc : q.toList with
      | nil=>exact absurd hc this
      | cons _ _=>rfl
     have hlk:=hm1.look q hzs2;(have hnil:=fun (W : World) (r : Option Nat)=>run_eql_map_nil (P:=Tryz.prog) W 117 _ _ r Tryz.underlying117);by_cases hem : papL (zs.take k) q = []
     case pos =>
      rw [if_pos hem] at hlk;obtain ⟨wb,wc,hr2,hl2b,hr3,hm3,hkb,hkc⟩:=hm1.fresh (z:=z) (by rw [← HQ.out]; exact hbz) (by rw [← HPA.out]; exact hzs1) (by rw [← HQ.out]; exact hzs2) (by omega) hszl (by rw [← HQ.out]; exact hem);rw [← HQ.out] at hr2 hl2b;rw [← HPA.out] at hr3;have hfin:=Lib.hid (show HelpM wc w5.heap.size mb (n+1) _ (zs.take (k+1)) from by rw [HTK.out]; exact hm3);have hwn:=Lib.hid (hwl.trans hkc);have hmm:=@run_makeMap Tryz.prog;clear hbz hem hm1 hm3 hkc;have hbb:=HRX.out _ hkb;have v2:=cell_at (i:=2) hbb rfl;have v4:=cell_at (i:=4) hbb rfl;rw [← HPA.out] at v2;rw [← HQ.out] at v4;clear hbb hkb;(go_wp2_with fail);go_roundw
      case rel=>exact ⟨k+1,by omega,by go_num,⟨n+1,_,by omega,hfin.out⟩,hwn.out⟩
      case measure=>simp [intOf]; omega
     case neg =>
      rw [if_neg hem] at hlk;obtain ⟨wc,hr3,hm3,hkc⟩:=hm1.old (z:=z) (by rw [← HQ.out]; exact hbz) (by rw [← HPA.out]; exact hzs1) (by omega) (by rw [← HQ.out]; exact hem);rw [← HQ.out,← HPA.out] at hr3;have hfin:=Lib.hid (show HelpM wc w5.heap.size mb (n+1) _ (zs.take (k+1)) from by rw [HTK.out]; exact hm3);have hwn:=Lib.hid (show But mb w5 wc from hwl.trans2 hkc (fun i hi _=>hi));clear hbz hem hm1 hm3 hkc;(go_wp2_with fail);go_roundw
      case rel=>exact ⟨k+1,by omega,by go_num,⟨n+1,_,by omega,hfin.out⟩,hwn.out⟩
      case measure=>simp [intOf]; omega
   ·(have hdk : decide ((k : Int) < (nz : Int)) = false:=by simp; omega);have HE3:=Lib.hid (show zs.take k = zs from List.take_of_length_le (by have:=HNZ.out; omega));rw [HE3.out] at hm;have hall:=all_butH hq5 hwr hmb1;have HIM:=Lib.hid (fun s=>(show (outerV ib zs s).isSome = true ↔ papL zs s≠[] from by unfold outerV; split <;> simp_all));have HSZ:=Lib.hid (fun (s : ByteArray) (h : papL zs s≠[])=>(show s.size≤1000000 from by
     obtain ⟨z,hz,rfl⟩:=papL_by h;exact (HSM.out z (HZM.out z hz)).2.2.1))
    have HSK:=Lib.hid (sortedKeysH_any mb (outerV ib zs) wo hm.outer (by omega) (fun s h=>HSZ.out s ((HIM.out s).1 h)));have HMK:=Lib.hid (callsIn_wide.1 (Tryz.maps_Keys_72 (some mb) wo));have HHM:=Lib.hid (fun (wx : World) (k : All wo wx)=>hm.keep k);have HPN:=Lib.hid (fun q=>papL_len zs q);clear hm hwr hq5;(go_wp2_with fail);refine HMK.out.mono ?_;rintro e w' ⟨rfl,rfl⟩;(go_wp2_with fail);refine HSK.out.mono ?_;rintro e w6 ⟨pk,ck,ks,rfl,hkp,hkm,hks,hw6⟩;(have hkm2 : ∀ q,q ∈ ks ↔ papL zs q≠[]:=fun q=>(hkm q).trans (HIM.out q));have HIS2:=Lib.hid (helpsOf_is hkp hkm2);(have hkl : ks.length≤nz:=by rw [HNZ.out]; exact keys_len (rises_nodup hkp) (fun q hq=>(hkm2 q).1 hq));have HKM:=Lib.hid hkm2;have HKS:=Lib.hid (fun (wx : World) (k : All w6 wx)=>hks.keep RStr.ok k);have hw6a:=hall.trans hw6;have HLEN:=Lib.hid (show (helpsOf zs ks).length = ks.length from by simp [helpsOf]);obtain ⟨nk,hnk⟩ : ∃ q,q = ks.length:=⟨_,rfl⟩;have HNK:=Lib.hid hnk;rw [← hnk] at HKS hkl ⊢;clear hkp hkm hkm2 hks hnk;(go_wp2_with fail);go_loopw [13,58] (fun o i wr=>∃ q : Nat,q≤nk∧i = .int .i64 q∧Acc RHelp 2 62 (fun _=>False) w6.heap.size wr o (helpsOf zs (ks.take q))∧All w6 wr) (fun _ i _=>nk - (intOf i).toNat)
    case atStart=>exact ⟨0,Nat.zero_le _,rfl,Acc.nil _ _ _ _ _ _,Kept.refl _ _⟩
    case round =>
     obtain ⟨j,hj,rfl,hacc,hwr⟩:=hrel;obtain ⟨wp,rfl⟩ : ∃ wp : World,wp = wr:=⟨_,rfl⟩;by_cases hlt2 : j < nk
     ·obtain ⟨b,off,y,ha,-,r0,hysz,hyk,-,htk⟩:=(HKS.out _ hwr).atStr hlt2;subst ha;have HY:=Lib.hid (helpsOf_snoc (zs:=zs) htk);have hym:=(HKM.out y).1 (List.mem_of_getElem? hyk);have hpm:=HHM.out _ (hw6.trans hwr);have hlk:=hpm.look y hysz;rw [if_neg hym] at hlk;have hln:=hpm.innerLen hym 3;obtain ⟨pl,hpl⟩ : ∃ q,q = (papL zs y).length:=⟨_,rfl⟩;(have hpl2 : pl≤1000:=by rw [hpl]; have:=HPN.out y; have:=HNZ.out; omega);rw [← hpl] at hln HY;obtain ⟨os,hos⟩ : ∃ q,q = helpsOf zs (ks.take j):=⟨_,rfl⟩;(have hon : os.length≤j:=by rw [hos,helpsOf,List.length_map]; exact List.length_take_le _ _);rw [← hos] at hacc HY;obtain ⟨oa,oc,rfl,hoc⟩:=hacc.form;have hsz:=hwr.size;clear htk hyk hym hpm hpl hos;(go_wp2_with (at_builtin; refine wp_append1 RHelp.ok _ rfl _ _ 55 rfl w6.heap.size 62 (.agg #[.string ⟨#[]⟩,.int .i64 0]) 2 24 Tryz.underlying55 (by kernel_rfl) rfl (by decide) (fun _=>False) _ os rfl (hacc.keepAll RHelp.ok (Kept.alloc _ _ _)) ⟨_,0,none⟩ 1 [.string y,.int .i64 (pl : Int)] rfl rfl (World.news_of_block (cs:=#[.string y,.int .i64 (pl : Int)]) (heap_at _ _ _ (by simp))) (by simp [Value.oneCell']) ⟨y,(pl : Int)⟩ ⟨rfl,hysz⟩ (by omega) (by decide) (by simp at *; omega) ?_));intro p9 c9 w9 hacc9 hg9 _;have hk9:=Lib.hid ((hwr.then_alloc _).grown hg9 (fun j hj=>Or.inl (hacc.lt j hj).1));have hfin:=Lib.hid hacc9;clear hacc9 hg9 hacc hwr hlk hln r0;(go_wp2_with fail);go_roundw
      case rel=>exact ⟨j+1,by omega,by go_num,by rw [HY.out]; exact hfin.out,hk9.out⟩
      case measure=>simp [intOf]; omega
     ·(have hdq : decide ((j : Int) < (nk : Int)) = false:=by simp; omega);have HE4:=Lib.hid (show ks.take j = ks from List.take_of_length_le (by have:=HNK.out; omega));rw [HE4.out] at hacc;obtain ⟨pa,pc,rfl,hsl⟩:=helpSl hacc;have HSL:=Lib.hid hsl;have hfin:=Lib.hid (HK1.out.trans (hw6a.trans hwr));clear hacc hsl hwr;(go_wp2_with fail);go_ret2;exact ⟨⟨fun _=>⟨pa,pc,_,rfl,HIS2.out,by rw [HLEN.out,← HNK.out,← HNZ.out]; exact hkl,HSL.out⟩,fun h=>absurd rfl h⟩,hfin.out⟩
end Go.Proofs.YtjbaijgdkkccbaaGreatDoor
