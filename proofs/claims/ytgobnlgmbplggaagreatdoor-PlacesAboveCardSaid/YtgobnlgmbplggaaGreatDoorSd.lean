/- Worlds of places, persons, works and bonds: how they lie in memory. No program in sight. -/
import Derived.Test.YtgobnlgmbplggaaGreatDoorP0
import Derived.Test.YtgobnlgmbplggaaGreatDoorYa
import Derived.Test.YtgobnlgmbplggaaGreatDoorZd
import Derived.Test.YtgobnlgmbplggaaGreatDoorSj
import Derived.Sort.Grow
import Derived.Sort.OwnSorted
import Derived.Shelf.SlSortCmp.Insertion
namespace Go.Proofs.YtgobnlgmbplggaaGreatDoor
open Go.RowKit

/-- A place, and the one above it. -/
structure Plc where
  key : ByteArray
  parent : ByteArray
def PlcSmall (x : Plc) : Prop := x.key.size ≤ 1000000 ∧ x.parent.size ≤ 1000000
def encPlc (x : Plc) : List Value := [.string x.key, .string x.parent]
def RPlc : Rel Plc := fun _ _ vs x => vs = encPlc x ∧ PlcSmall x
theorem flatPlc : Flat RPlc encPlc PlcSmall 2 :=
  ⟨fun _ _ _ _ => Iff.rfl, fun _ => rfl, by decide, fun x u hu => by simp [encPlc] at hu; rcases hu with rfl | rfl <;> rfl⟩
theorem RPlc.ok : RPlc.Ok := Flat.ok flatPlc
theorem Sl.atPlc {F : Nat → Prop} {w : World} {a : Option Addr} {len : Nat} {xs : List Plc} (h : Sl RPlc 2 F w a len xs) {k : Nat} (hk : k < len) :
    ∃ b off x, a = some ⟨b, off, none⟩ ∧ F b ∧ w.cell? ⟨b, off + k * 2, none⟩ = some (.string x.key) ∧ w.cell? ⟨b, off + k * 2 + 1, none⟩ = some (.string x.parent) ∧
      PlcSmall x ∧ xs[k]? = some x ∧ xs.take (k + 1) = xs.take k ++ [x] := by
  obtain ⟨b, off, vs, x, ha, hF, h1, h2, ⟨rfl, hsm⟩, h4, h5, h6⟩ := h.at hk
  exact ⟨b, off, x, ha, hF, (h2 0 (by simp [encPlc])).trans rfl, (h2 1 (by simp [encPlc])).trans rfl, hsm, h4, h6⟩

/-- A name from a day on. -/
structure Nam where
  name : ByteArray
  frm : Int
def NamSmall (x : Nam) : Prop := x.name.size ≤ 1000000 ∧ (-2000000000000 ≤ x.frm ∧ x.frm ≤ 2000000000000)
def encNam (x : Nam) : List Value := [.string x.name, .int .i64 x.frm]
def RNam : Rel Nam := fun _ _ vs x => vs = encNam x ∧ NamSmall x
theorem flatNam : Flat RNam encNam NamSmall 2 :=
  ⟨fun _ _ _ _ => Iff.rfl, fun _ => rfl, by decide, fun x u hu => by simp [encNam] at hu; rcases hu with rfl | rfl <;> rfl⟩
theorem RNam.ok : RNam.Ok := Flat.ok flatNam
theorem Sl.atNam {F : Nat → Prop} {w : World} {a : Option Addr} {len : Nat} {xs : List Nam} (h : Sl RNam 2 F w a len xs) {k : Nat} (hk : k < len) :
    ∃ b off x, a = some ⟨b, off, none⟩ ∧ F b ∧ w.cell? ⟨b, off + k * 2, none⟩ = some (.string x.name) ∧ w.cell? ⟨b, off + k * 2 + 1, none⟩ = some (.int .i64 x.frm) ∧
      NamSmall x ∧ xs[k]? = some x ∧ xs.take (k + 1) = xs.take k ++ [x] := by
  obtain ⟨b, off, vs, x, ha, hF, h1, h2, ⟨rfl, hsm⟩, h4, h5, h6⟩ := h.at hk
  exact ⟨b, off, x, ha, hF, (h2 0 (by simp [encNam])).trans rfl, (h2 1 (by simp [encNam])).trans rfl, hsm, h4, h6⟩

/-- A place from a day on, before another one. -/
structure Hom where
  place : ByteArray
  frm : Int
  til : Int
def HomSmall (x : Hom) : Prop := x.place.size ≤ 1000000 ∧ (-2000000000000 ≤ x.frm ∧ x.frm ≤ 2000000000000) ∧ (-2000000000000 ≤ x.til ∧ x.til ≤ 2000000000000)
def encHom (x : Hom) : List Value := [.string x.place, .int .i64 x.frm, .int .i64 x.til]
def RHom : Rel Hom := fun _ _ vs x => vs = encHom x ∧ HomSmall x
theorem flatHom : Flat RHom encHom HomSmall 3 :=
  ⟨fun _ _ _ _ => Iff.rfl, fun _ => rfl, by decide, fun x u hu => by simp [encHom] at hu; rcases hu with rfl | rfl | rfl <;> rfl⟩
theorem RHom.ok : RHom.Ok := Flat.ok flatHom
theorem Sl.atHom {F : Nat → Prop} {w : World} {a : Option Addr} {len : Nat} {xs : List Hom} (h : Sl RHom 3 F w a len xs) {k : Nat} (hk : k < len) :
    ∃ b off x, a = some ⟨b, off, none⟩ ∧ F b ∧ w.cell? ⟨b, off + k * 3, none⟩ = some (.string x.place) ∧ w.cell? ⟨b, off + k * 3 + 1, none⟩ = some (.int .i64 x.frm) ∧ w.cell? ⟨b, off + k * 3 + 2, none⟩ = some (.int .i64 x.til) ∧
      HomSmall x ∧ xs[k]? = some x ∧ xs.take (k + 1) = xs.take k ++ [x] := by
  obtain ⟨b, off, vs, x, ha, hF, h1, h2, ⟨rfl, hsm⟩, h4, h5, h6⟩ := h.at hk
  exact ⟨b, off, x, ha, hF, (h2 0 (by simp [encHom])).trans rfl, (h2 1 (by simp [encHom])).trans rfl, (h2 2 (by simp [encHom])).trans rfl, hsm, h4, h6⟩

/-- Two persons. -/
structure Bnd where
  a : ByteArray
  b : ByteArray
def BndSmall (x : Bnd) : Prop := x.a.size ≤ 1000000 ∧ x.b.size ≤ 1000000
def encBnd (x : Bnd) : List Value := [.string x.a, .string x.b]
def RBnd : Rel Bnd := fun _ _ vs x => vs = encBnd x ∧ BndSmall x
theorem flatBnd : Flat RBnd encBnd BndSmall 2 :=
  ⟨fun _ _ _ _ => Iff.rfl, fun _ => rfl, by decide, fun x u hu => by simp [encBnd] at hu; rcases hu with rfl | rfl <;> rfl⟩
theorem RBnd.ok : RBnd.Ok := Flat.ok flatBnd
theorem Sl.atBnd {F : Nat → Prop} {w : World} {a : Option Addr} {len : Nat} {xs : List Bnd} (h : Sl RBnd 2 F w a len xs) {k : Nat} (hk : k < len) :
    ∃ b off x, a = some ⟨b, off, none⟩ ∧ F b ∧ w.cell? ⟨b, off + k * 2, none⟩ = some (.string x.a) ∧ w.cell? ⟨b, off + k * 2 + 1, none⟩ = some (.string x.b) ∧
      BndSmall x ∧ xs[k]? = some x ∧ xs.take (k + 1) = xs.take k ++ [x] := by
  obtain ⟨b, off, vs, x, ha, hF, h1, h2, ⟨rfl, hsm⟩, h4, h5, h6⟩ := h.at hk
  exact ⟨b, off, x, ha, hF, (h2 0 (by simp [encBnd])).trans rfl, (h2 1 (by simp [encBnd])).trans rfl, hsm, h4, h6⟩

/-- A person. -/
structure Per where
  key : ByteArray
  names : List Nam
  homes : List Hom
  mails : List ByteArray
  advs : List ByteArray
def PerSmall (x : Per) : Prop := x.key.size ≤ 1000000 ∧ x.names.length ≤ 1000 ∧ x.homes.length ≤ 1000 ∧ x.mails.length ≤ 1000 ∧ x.advs.length ≤ 1000
/-- The cells of it. -/
abbrev cellsPer (x : Per) (a1 : Option Addr) (c1 : Nat) (a2 : Option Addr) (c2 : Nat) (a3 : Option Addr) (c3 : Nat) (a4 : Option Addr) (c4 : Nat) : List Value := [.string x.key, .slice a1 x.names.length c1, .slice a2 x.homes.length c2, .slice a3 x.mails.length c3, .slice a4 x.advs.length c4]
/-- What it holds lies in memory. -/
structure PerIs (F : Nat → Prop) (w : World) (x : Per) (a1 : Option Addr) (c1 : Nat) (a2 : Option Addr) (c2 : Nat) (a3 : Option Addr) (c3 : Nat) (a4 : Option Addr) (c4 : Nat) : Prop where
  small : PerSmall x
  cnames : x.names.length ≤ c1
  rnames : Sl RNam 2 F w a1 x.names.length x.names
  chomes : x.homes.length ≤ c2
  rhomes : Sl RHom 3 F w a2 x.homes.length x.homes
  cmails : x.mails.length ≤ c3
  rmails : Sl RStr 1 F w a3 x.mails.length x.mails
  cadvs : x.advs.length ≤ c4
  radvs : Sl RStr 1 F w a4 x.advs.length x.advs
theorem PerIs.keep {F : Nat → Prop} {w w' : World} {x : Per} {a1 : Option Addr} {c1 : Nat} {a2 : Option Addr} {c2 : Nat} {a3 : Option Addr} {c3 : Nat} {a4 : Option Addr} {c4 : Nat} (h : PerIs F w x a1 c1 a2 c2 a3 c3 a4 c4) (k : Kept F w w') : PerIs F w' x a1 c1 a2 c2 a3 c3 a4 c4 :=
  ⟨h.small, h.cnames, h.rnames.keep RNam.ok k, h.chomes, h.rhomes.keep RHom.ok k, h.cmails, h.rmails.keep RStr.ok k, h.cadvs, h.radvs.keep RStr.ok k⟩
theorem PerIs.mono {F G : Nat → Prop} {w : World} {x : Per} {a1 : Option Addr} {c1 : Nat} {a2 : Option Addr} {c2 : Nat} {a3 : Option Addr} {c3 : Nat} {a4 : Option Addr} {c4 : Nat} (h : PerIs F w x a1 c1 a2 c2 a3 c3 a4 c4) (k : ∀ i, F i → G i) : PerIs G w x a1 c1 a2 c2 a3 c3 a4 c4 :=
  ⟨h.small, h.cnames, h.rnames.mono RNam.ok k, h.chomes, h.rhomes.mono RHom.ok k, h.cmails, h.rmails.mono RStr.ok k, h.cadvs, h.radvs.mono RStr.ok k⟩
theorem PerIs.live {F : Nat → Prop} {w : World} {x : Per} {a1 : Option Addr} {c1 : Nat} {a2 : Option Addr} {c2 : Nat} {a3 : Option Addr} {c3 : Nat} {a4 : Option Addr} {c4 : Nat} (h : PerIs F w x a1 c1 a2 c2 a3 c3 a4 c4) : PerIs (fun i => F i ∧ i < w.heap.size) w x a1 c1 a2 c2 a3 c3 a4 c4 :=
  ⟨h.small, h.cnames, h.rnames.live RNam.ok (by decide), h.chomes, h.rhomes.live RHom.ok (by decide), h.cmails, h.rmails.live RStr.ok (by decide), h.cadvs, h.radvs.live RStr.ok (by decide)⟩
def RPer : Rel Per := fun F w vs x => ∃ a1 c1 a2 c2 a3 c3 a4 c4, vs = cellsPer x a1 c1 a2 c2 a3 c3 a4 c4 ∧ PerIs F w x a1 c1 a2 c2 a3 c3 a4 c4
theorem RPer.ok : RPer.Ok := by
  refine ⟨?_, ?_, ?_⟩
  · rintro F w w' vs x hk ⟨a1, c1, a2, c2, a3, c3, a4, c4, rfl, h⟩
    exact ⟨a1, c1, a2, c2, a3, c3, a4, c4, rfl, h.keep hk⟩
  · rintro F G w vs x hk ⟨a1, c1, a2, c2, a3, c3, a4, c4, rfl, h⟩
    exact ⟨a1, c1, a2, c2, a3, c3, a4, c4, rfl, h.mono hk⟩
  · rintro F w vs x ⟨a1, c1, a2, c2, a3, c3, a4, c4, rfl, h⟩
    exact ⟨a1, c1, a2, c2, a3, c3, a4, c4, rfl, h.live⟩
theorem Sl.atPer {F : Nat → Prop} {w : World} {a : Option Addr} {len : Nat} {xs : List Per} (h : Sl RPer 5 F w a len xs) {k : Nat} (hk : k < len) :
    ∃ b off x a1 c1 a2 c2 a3 c3 a4 c4, a = some ⟨b, off, none⟩ ∧ F b ∧ w.cell? ⟨b, off + k * 5, none⟩ = some (.string x.key) ∧ w.cell? ⟨b, off + k * 5 + 1, none⟩ = some (.slice a1 x.names.length c1) ∧ w.cell? ⟨b, off + k * 5 + 2, none⟩ = some (.slice a2 x.homes.length c2) ∧ w.cell? ⟨b, off + k * 5 + 3, none⟩ = some (.slice a3 x.mails.length c3) ∧ w.cell? ⟨b, off + k * 5 + 4, none⟩ = some (.slice a4 x.advs.length c4) ∧
      PerIs F w x a1 c1 a2 c2 a3 c3 a4 c4 ∧ xs[k]? = some x ∧ xs.take (k + 1) = xs.take k ++ [x] := by
  obtain ⟨b, off, vs, x, ha, hF, h1, h2, ⟨a1, c1, a2, c2, a3, c3, a4, c4, rfl, hsm⟩, h4, h5, h6⟩ := h.at hk
  exact ⟨b, off, x, a1, c1, a2, c2, a3, c3, a4, c4, ha, hF, (h2 0 (by simp)).trans rfl, (h2 1 (by simp)).trans rfl, (h2 2 (by simp)).trans rfl, (h2 3 (by simp)).trans rfl, (h2 4 (by simp)).trans rfl, hsm, h4, h6⟩

/-- What persons wrote on a day. -/
structure Wrk where
  day : Int
  authors : List ByteArray
def WrkSmall (x : Wrk) : Prop := (-2000000000000 ≤ x.day ∧ x.day ≤ 2000000000000) ∧ x.authors.length ≤ 1000
/-- The cells of it. -/
abbrev cellsWrk (x : Wrk) (a1 : Option Addr) (c1 : Nat) : List Value := [.int .i64 x.day, .slice a1 x.authors.length c1]
/-- What it holds lies in memory. -/
structure WrkIs (F : Nat → Prop) (w : World) (x : Wrk) (a1 : Option Addr) (c1 : Nat) : Prop where
  small : WrkSmall x
  cauthors : x.authors.length ≤ c1
  rauthors : Sl RStr 1 F w a1 x.authors.length x.authors
theorem WrkIs.keep {F : Nat → Prop} {w w' : World} {x : Wrk} {a1 : Option Addr} {c1 : Nat} (h : WrkIs F w x a1 c1) (k : Kept F w w') : WrkIs F w' x a1 c1 :=
  ⟨h.small, h.cauthors, h.rauthors.keep RStr.ok k⟩
theorem WrkIs.mono {F G : Nat → Prop} {w : World} {x : Wrk} {a1 : Option Addr} {c1 : Nat} (h : WrkIs F w x a1 c1) (k : ∀ i, F i → G i) : WrkIs G w x a1 c1 :=
  ⟨h.small, h.cauthors, h.rauthors.mono RStr.ok k⟩
theorem WrkIs.live {F : Nat → Prop} {w : World} {x : Wrk} {a1 : Option Addr} {c1 : Nat} (h : WrkIs F w x a1 c1) : WrkIs (fun i => F i ∧ i < w.heap.size) w x a1 c1 :=
  ⟨h.small, h.cauthors, h.rauthors.live RStr.ok (by decide)⟩
def RWrk : Rel Wrk := fun F w vs x => ∃ a1 c1, vs = cellsWrk x a1 c1 ∧ WrkIs F w x a1 c1
theorem RWrk.ok : RWrk.Ok := by
  refine ⟨?_, ?_, ?_⟩
  · rintro F w w' vs x hk ⟨a1, c1, rfl, h⟩
    exact ⟨a1, c1, rfl, h.keep hk⟩
  · rintro F G w vs x hk ⟨a1, c1, rfl, h⟩
    exact ⟨a1, c1, rfl, h.mono hk⟩
  · rintro F w vs x ⟨a1, c1, rfl, h⟩
    exact ⟨a1, c1, rfl, h.live⟩
theorem Sl.atWrk {F : Nat → Prop} {w : World} {a : Option Addr} {len : Nat} {xs : List Wrk} (h : Sl RWrk 2 F w a len xs) {k : Nat} (hk : k < len) :
    ∃ b off x a1 c1, a = some ⟨b, off, none⟩ ∧ F b ∧ w.cell? ⟨b, off + k * 2, none⟩ = some (.int .i64 x.day) ∧ w.cell? ⟨b, off + k * 2 + 1, none⟩ = some (.slice a1 x.authors.length c1) ∧
      WrkIs F w x a1 c1 ∧ xs[k]? = some x ∧ xs.take (k + 1) = xs.take k ++ [x] := by
  obtain ⟨b, off, vs, x, ha, hF, h1, h2, ⟨a1, c1, rfl, hsm⟩, h4, h5, h6⟩ := h.at hk
  exact ⟨b, off, x, a1, c1, ha, hF, (h2 0 (by simp)).trans rfl, (h2 1 (by simp)).trans rfl, hsm, h4, h6⟩

/-- A world. -/
structure Wld where
  places : List Plc
  people : List Per
  works : List Wrk
  bonds : List Bnd
/-- A world lies in memory. -/
structure WldIs (F : Nat → Prop) (w : World) (a0 : Option Addr) (l0 : Nat) (a1 : Option Addr) (l1 : Nat) (a2 : Option Addr) (l2 : Nat) (a3 : Option Addr) (l3 : Nat) (s : Wld) : Prop where
  places : Sl RPlc 2 F w a0 l0 s.places
  people : Sl RPer 5 F w a1 l1 s.people
  works : Sl RWrk 2 F w a2 l2 s.works
  bonds : Sl RBnd 2 F w a3 l3 s.bonds
section
variable {F G : Nat → Prop} {w w' : World} {a0 a1 a2 a3 : Option Addr} {l0 l1 l2 l3 : Nat} {s : Wld}
theorem WldIs.keep (h : WldIs F w a0 l0 a1 l1 a2 l2 a3 l3 s) (k : Kept F w w') : WldIs F w' a0 l0 a1 l1 a2 l2 a3 l3 s :=
  ⟨h.places.keep RPlc.ok k, h.people.keep RPer.ok k, h.works.keep RWrk.ok k, h.bonds.keep RBnd.ok k⟩
theorem WldIs.mono (h : WldIs F w a0 l0 a1 l1 a2 l2 a3 l3 s) (k : ∀ i, F i → G i) : WldIs G w a0 l0 a1 l1 a2 l2 a3 l3 s :=
  ⟨h.places.mono RPlc.ok k, h.people.mono RPer.ok k, h.works.mono RWrk.ok k, h.bonds.mono RBnd.ok k⟩
end
end Go.Proofs.YtgobnlgmbplggaaGreatDoor

/- slices of plcs: IndexFunc, Clone. -/
namespace Go.Proofs.YtgobnlgmbplggaaGreatDoor
open Go.RowKit


set_option maxHeartbeats 800000 in
theorem indexFuncPlc_any (g : FuncId) (caps : Array Value) (eg : ∀ args w, (callFunc g args).run Tryz.prog w = .ok (.enter g args) w) (p : Plc → Bool) (G : Nat → Prop)
    (a : Option Addr) (len cap : Nat) (ss : List Plc) (w : World) (hs : Sl RPlc 2 (fun _ => True) w a len ss) (hl : len ≤ 1000000) (hp : AnswersG Tryz.prog g caps G w (fun y : Plc => Value.agg #[.string y.key, .string y.parent]) p ss) :
    Calls Tryz.prog 81 #[.slice a len cap, .func (.func g) #[] caps] w fun e w' => e = .returned (.int .i64 (findA p 0 ss)) ∧ All w w' := by
  have Hlen := Lib.hid hs.len
  have HP := Lib.hid hp
  clear hp
  go_enter Tryz.func81, Tryz.ntmps81
  go_wp2
  go_loopw [5, 8] (fun _ i wr => ∃ k : Nat, k ≤ len ∧ i = .int .i64 k ∧ (ss.take k).any p = false ∧ All w wr) (fun _ i _ => len - (intOf i).toNat)
  case atStart => exact ⟨0, Nat.zero_le _, rfl, by simp, Kept.refl _ _⟩
  case round =>
    obtain ⟨k, hk, rfl, hnot, hall⟩ := hrel
    have Hnot := Lib.hid hnot
    clear hnot
    by_cases hlt : k < len
    · obtain ⟨b, off, y, ha, -, c0, c1, hS, hy, -⟩ := (hs.keep RPlc.ok hall).atPlc hlt
      have Hy := Lib.hid hy
      have hmem := List.mem_of_getElem? hy
      clear hy
      subst ha
      clear hs
      cases hpy : p y with
      | true =>
        have Hfin := Lib.hid (findA_at Hnot.out Hy.out hpy)
        go_wp2_with fail
        refine (HP.out y hmem _ (Kept.all hall)).mono ?_
        rintro e w' ⟨rfl, hw⟩
        rw [hpy]
        go_wp2_with fail
        go_ret
        exact ⟨ret_int' Hfin.out.symm, hall.trans hw⟩
      | false =>
        have Hn := Lib.hid (anyA_next Hnot.out Hy.out hpy)
        go_wp2_with fail
        refine (HP.out y hmem _ (Kept.all hall)).mono ?_
        rintro e w' ⟨rfl, hw⟩
        rw [hpy]
        go_wp2_with fail
        go_roundw
        case rel => exact ⟨k + 1, by omega, by go_num, Hn.out, hall.trans hw⟩
        case measure => simp [intOf]; omega
    · have hd : decide ((k : Int) < (len : Int)) = false := by simp; omega
      have Hfin := Lib.hid (findA_end Hnot.out (by have := Hlen.out; omega))
      go_wp2
      go_ret
      exact ⟨ret_int' Hfin.out.symm, hall⟩


end Go.Proofs.YtgobnlgmbplggaaGreatDoor

/- Marks: how they lie in memory; what CheckMarks, MarksFault, scoresOf, scores and Mean compute. No program in sight. -/
namespace Go.Proofs.YtgobnlgmbplggaaGreatDoor
open Go.RowKit

structure Mark3 where
  paper : ByteArray
  person : ByteArray
  score : Int
def RMark : Rel Mark3 := fun _ _ vs x => vs = [.string x.paper, .string x.person, .int .i64 x.score] ∧ x.paper.size ≤ 1000000 ∧ x.person.size ≤ 1000000
theorem RMark.ok : RMark.Ok := ⟨fun _ h => h, fun _ h => h, fun h => h⟩
/-- Pairs are compared by paper, then by person. -/
def cmpP (a1 a2 b1 b2 : ByteArray) : Int := if Lib.compareBytes a1.data.toList b1.data.toList ≠ 0 then Lib.compareBytes a1.data.toList b1.data.toList else Lib.compareBytes a2.data.toList b2.data.toList
def ordM (p : Option Mark3) (m : Mark3) : Bool := match p with | none => false | some q => decide (0 ≤ cmpP q.paper q.person m.paper m.person)
noncomputable def markF (p : Option Mark3) (m : Mark3) : Int :=
  if isKeyB m.paper = false then 5 else if isKeyB m.person = false then 5 else if ordM p m = true then 7 else if m.score < 0 ∨ 10 < m.score then 1 else 0
noncomputable def marksG (p : Option Mark3) : List Mark3 → Int
  | [] => 0
  | x :: l => if markF p x ≠ 0 then markF p x else marksG (some x) l
theorem marksG_cons (p : Option Mark3) (x : Mark3) (l : List Mark3) : marksG p (x :: l) = if markF p x ≠ 0 then markF p x else marksG (some x) l := rfl
/-- The walk over marks up to place k has found nothing. -/
def MarkAt (xs : List Mark3) (k : Nat) : Prop := marksG none xs = marksG (xs.take k).getLast? (xs.drop k)
section
variable {xs : List Mark3} {k : Nat} {x : Mark3} {p : Option Mark3}
theorem MarkAt.zero (xs : List Mark3) : MarkAt xs 0 := by simp [MarkAt]
theorem MarkAt.bad {e : Int} (h : MarkAt xs k) (hx : xs[k]? = some x) (hf : markF (xs.take k).getLast? x = e) (he : e ≠ 0) : marksG none xs = e := by
  rw [h, drop_at hx, marksG_cons, hf, if_pos he]
theorem MarkAt.next (h : MarkAt xs k) (hx : xs[k]? = some x) (hf : markF (xs.take k).getLast? x = 0) : MarkAt xs (k + 1) := by
  unfold MarkAt at *
  rw [h, drop_at hx, marksG_cons, hf, if_neg (by simp), last_take hx]
theorem MarkAt.ok (h : MarkAt xs k) (hk : xs.length ≤ k) : marksG none xs = 0 := by
  rw [h, List.drop_of_length_le hk]; rfl
end
end Go.Proofs.YtgobnlgmbplggaaGreatDoor

/- Contracts of the stream: odd10, Order; slices written out. -/
namespace Go.Proofs.YtgobnlgmbplggaaGreatDoor
open Go.RowKit

theorem Sl.lit_ints {F : Nat → Prop} {w' : World} {t : TypeId} {fz : Nat × Nat} {b : Nat} {c : Array Value} (zs : List Int) (hb : w'.heap[b]? = some (.cells c t fz)) (hc : c = (zs.map (Value.int .i64)).toArray) (hF : F b) :
    Sl RInt 1 F w' (some ⟨b, 0, none⟩) zs.length zs := by
  refine Sl.of_ints rfl hF fun i hi => ?_
  simp [World.cell?, hb, hc, List.getElem?_eq_getElem hi]
theorem Sl.lit_strs {F : Nat → Prop} {w' : World} {t : TypeId} {fz : Nat × Nat} {b : Nat} {c : Array Value} (ss : List ByteArray) (hb : w'.heap[b]? = some (.cells c t fz)) (hc : c = (ss.map Value.string).toArray) (hF : F b) (hz : ss.all (fun s => decide (s.size ≤ 1000000)) = true := by decide) :
    Sl RStr 1 F w' (some ⟨b, 0, none⟩) ss.length ss := by
  refine Sl.of_strs rfl hF (fun i hi => ?_) (fun s hs => of_decide_eq_true (List.all_eq_true.1 hz s hs))
  simp [World.cell?, hb, hc, List.getElem?_eq_getElem hi]

theorem odd10_any (σ : St) (n : Nat) (lo hi : Int) (w : World) (hs : Str σ w n) (hn : n ≤ 4611686018427380000) (h1 : lo ≤ hi) (h2 : -1000000000000 ≤ lo) (h3 : hi ≤ 1000000000000) :
    Calls Tryz.prog 61 #[.pointer (some ⟨σ.b, 0, none⟩), .int .i64 lo, .int .i64 hi] w (StPost σ n 2 w (IsNum fun r => -2000000000000 ≤ r ∧ r ≤ 2000000000000)) := by
  go_enter Tryz.func61, Tryz.ntmps61
  go_wp2_with fail
  refine (flip_any σ n _ _ hs (by omega) (by omega) (by omega)).mono ?_
  rintro e w' ⟨v, m, rfl, ⟨r, rfl⟩, hm1, hm2, hs', hb'⟩
  clear hs
  cases r
  · go_wp2_with fail
    refine (range_any σ m _ _ _ hs' (by omega) h1 h2 h3).mono ?_
    rintro e w2 ⟨v, m2, rfl, ⟨r, rfl, hr1, hr2⟩, hm3, hm4, hs2, hb2⟩
    go_wp2_with fail
    go_ret
    exact ⟨_, m2, rfl, ⟨_, rfl, by omega, by omega⟩, by omega, by omega, hs2, hb'.trans hb2⟩
  · have hlt := hs'.lt
    go_wp2_with fail
    refine (pick_any σ m _ _ _ [lo - 1, hi + 1, lo, hi, -1099511627776, 1099511627776] _ (hs'.keep (Kept.alloc _ _ _)) (by omega) (Sl.lit_ints _ (heap_alloc_new _ _) rfl (by simp; omega)) (by simp) (by simp)).mono ?_
    rintro e w2 ⟨v, m2, rfl, ⟨r, rfl, hr⟩, hm3, hm4, hs2, hb2⟩
    go_wp2_with fail
    go_ret
    refine ⟨_, m2, rfl, ⟨_, rfl, ?_⟩, by omega, by omega, hs2, (hb'.then_alloc _).trans hb2⟩
    simp at hr
    omega
end Go.Proofs.YtgobnlgmbplggaaGreatDoor

/- Pairs are compared: cmp.Compare and slices.Compare of strings, ComparePairs, PairOrder. -/
namespace Go.Proofs.YtgobnlgmbplggaaGreatDoor
open Go.RowKit

theorem cmp_vals : ∀ (a b : List UInt8), Lib.compareBytes a b = -1 ∨ Lib.compareBytes a b = 0 ∨ Lib.compareBytes a b = 1
  | [], [] => by simp [Lib.compareBytes]
  | [], _ :: _ => by simp [Lib.compareBytes]
  | _ :: _, [] => by simp [Lib.compareBytes]
  | x :: a, y :: b => by
    simp only [Lib.compareBytes]
    split
    · simp
    · split
      · simp
      · exact cmp_vals a b
theorem cmp_swap : ∀ (a b : List UInt8), Lib.compareBytes b a = - Lib.compareBytes a b
  | [], [] => by simp [Lib.compareBytes]
  | [], _ :: _ => by simp [Lib.compareBytes]
  | _ :: _, [] => by simp [Lib.compareBytes]
  | x :: a, y :: b => by
    simp only [Lib.compareBytes]
    by_cases h1 : x < y
    · have h2 : ¬ y < x := by rw [UInt8.lt_iff_toNat_lt] at *; omega
      simp [h1, h2]
    · by_cases h2 : y < x
      · simp [h1, h2]
      · simp [h1, h2, cmp_swap a b]
theorem cmp_lt {a b : ByteArray} (h : Op.bytesLess a.toList b.toList = true) : Lib.compareBytes a.data.toList b.data.toList = -1 := by
  rw [tl_data, tl_data] at h
  have := (cmp_neg a.data.toList b.data.toList).2 h
  have := cmp_vals a.data.toList b.data.toList
  omega
theorem cmp_gt {a b : ByteArray} (h : Op.bytesLess b.toList a.toList = true) : Lib.compareBytes a.data.toList b.data.toList = 1 := by
  have := cmp_lt h
  rw [cmp_swap, this]; rfl
theorem cmp_eq {a b : ByteArray} (h1 : Op.bytesLess a.toList b.toList = false) (h2 : Op.bytesLess b.toList a.toList = false) : Lib.compareBytes a.data.toList b.data.toList = 0 := by
  rw [cmp_zero, ← tl_data, ← tl_data]
  apply Classical.byContradiction
  intro hn
  rw [bl_total h1 hn] at h2
  cases h2

theorem isNaN_any (x : ByteArray) (w : World) : Calls Tryz.prog 261 #[.string x] w fun e w' => e = .returned (.bool false) ∧ w = w' := by
  have h : (x.toList != x.toList) = false := by simp
  go_enter Tryz.func261, Tryz.ntmps261
  go_wp2
  go_ret
  exact ⟨by simp, rfl⟩
theorem cmpStr_any (a b : ByteArray) (w : World) : Calls Tryz.prog 235 #[.string a, .string b] w fun e w' => e = .returned (.int .i64 (Lib.compareBytes a.data.toList b.data.toList)) ∧ w = w' := by
  cases h1 : Op.bytesLess a.toList b.toList
  · cases h2 : Op.bytesLess b.toList a.toList
    · have he := Lib.hid (cmp_eq h1 h2)
      have heq : (a.toList == b.toList) = true := by
        have := (cmp_zero _ _).1 he.out
        rw [tl_data, tl_data, this]; simp
      go_enter Tryz.func235, Tryz.ntmps235
      go_wp2_with fail
      refine (isNaN_any _ _).mono ?_
      rintro e w' ⟨rfl, rfl⟩
      go_wp2_with fail
      refine (isNaN_any _ _).mono ?_
      rintro e w' ⟨rfl, rfl⟩
      go_wp2_with fail
      go_ret
      exact ⟨ret_int' he.out.symm, rfl⟩
    · have he := Lib.hid (cmp_gt h2)
      have heq : (a.toList == b.toList) = false := by
        rw [beq_eq_false_iff_ne]
        intro e
        rw [e, bl_irrefl] at h2
        cases h2
      go_enter Tryz.func235, Tryz.ntmps235
      go_wp2_with fail
      refine (isNaN_any _ _).mono ?_
      rintro e w' ⟨rfl, rfl⟩
      go_wp2_with fail
      refine (isNaN_any _ _).mono ?_
      rintro e w' ⟨rfl, rfl⟩
      go_wp2_with fail
      go_ret
      exact ⟨ret_int' he.out.symm, rfl⟩
  · have he := Lib.hid (cmp_lt h1)
    go_enter Tryz.func235, Tryz.ntmps235
    go_wp2_with fail
    refine (isNaN_any _ _).mono ?_
    rintro e w' ⟨rfl, rfl⟩
    go_wp2_with fail
    refine (isNaN_any _ _).mono ?_
    rintro e w' ⟨rfl, rfl⟩
    go_wp2_with fail
    go_ret
    exact ⟨ret_int' he.out.symm, rfl⟩

/-- Lists of strings are compared. -/
def cmpS : List ByteArray → List ByteArray → Int
  | [], [] => 0
  | [], _ :: _ => -1
  | _ :: _, [] => 1
  | a :: l, b :: k => if Lib.compareBytes a.data.toList b.data.toList ≠ 0 then Lib.compareBytes a.data.toList b.data.toList else cmpS l k
set_option maxHeartbeats 800000 in
theorem compareS_any (a1 : Option Addr) (n c1 : Nat) (a2 : Option Addr) (c2 : Nat) (ss ts : List ByteArray) (w : World) (hs : Sl RStr 1 (fun _ => True) w a1 n ss) (ht : Sl RStr 1 (fun _ => True) w a2 n ts) (hl : n ≤ 1000000) :
    Calls Tryz.prog 174 #[.slice a1 n c1, .slice a2 n c2] w fun e w' => e = .returned (.int .i64 (cmpS ss ts)) ∧ w = w' := by
  have Hs := Lib.hid hs.len
  have Ht := Lib.hid ht.len
  go_enter Tryz.func174, Tryz.ntmps174
  go_wp2_with fail
  go_loop [11] (fun i => ∃ k : Nat, k ≤ n ∧ i = .int .i64 k ∧ cmpS ss ts = cmpS (ss.drop k) (ts.drop k)) (fun i => n - (intOf i).toNat)
  case atStart => exact ⟨0, Nat.zero_le _, rfl, by simp⟩
  case round =>
    obtain ⟨k, hk, rfl, hat⟩ := hrel
    have HA := Lib.hid hat
    clear hat
    by_cases hlt : k < n
    · obtain ⟨b1, o1, y1, ha1, -, cy1, -, hy1, -, -⟩ := hs.atStr hlt
      obtain ⟨b2, o2, y2, ha2, -, cy2, -, hy2, -, -⟩ := ht.atStr hlt
      subst ha1
      subst ha2
      have hge : decide ((n : Int) ≤ (k : Int)) = false := by simp; omega
      have HY := Lib.hid (And.intro hy1 hy2)
      clear hy1 hy2
      by_cases h0 : Lib.compareBytes y1.data.toList y2.data.toList = 0
      · have hn := Lib.hid (show cmpS ss ts = cmpS (ss.drop (k + 1)) (ts.drop (k + 1)) by rw [HA.out, drop_at HY.out.1, drop_at HY.out.2, cmpS, if_neg (by simp [h0])])
        go_wp2_with fail
        refine (cmpStr_any _ _ _).mono ?_
        rintro e w' ⟨rfl, rfl⟩
        rw [h0]
        clear h0
        go_wp2_with fail
        go_round
        case rel => exact ⟨k + 1, by omega, by go_num, hn.out⟩
        case measure => simp [intOf]; omega
      · have hn := Lib.hid (show cmpS ss ts = Lib.compareBytes y1.data.toList y2.data.toList by rw [HA.out, drop_at HY.out.1, drop_at HY.out.2, cmpS, if_pos h0])
        have hne : (Lib.compareBytes y1.data.toList y2.data.toList != 0) = true := by simpa using h0
        go_wp2_with fail
        refine (cmpStr_any _ _ _).mono ?_
        rintro e w' ⟨rfl, rfl⟩
        clear h0
        go_wp2_with fail
        go_ret
        exact ⟨ret_int' hn.out.symm, rfl⟩
    · have hd : decide ((k : Int) < (n : Int)) = false := by simp; omega
      have hn := Lib.hid (show cmpS ss ts = 0 by rw [HA.out, List.drop_of_length_le (by have := Hs.out; omega), List.drop_of_length_le (by have := Ht.out; omega)]; rfl)
      go_wp2_with fail
      go_ret
      exact ⟨ret_int' hn.out.symm, rfl⟩

theorem Sl.lit_strs' {F : Nat → Prop} {w' : World} {t : TypeId} {fz : Nat × Nat} {b : Nat} {c : Array Value} (ss : List ByteArray) (hb : w'.heap[b]? = some (.cells c t fz)) (hc : c = (ss.map Value.string).toArray) (hF : F b) (hz : ∀ s ∈ ss, s.size ≤ 1000000) :
    Sl RStr 1 F w' (some ⟨b, 0, none⟩) ss.length ss := by
  refine Sl.of_strs rfl hF (fun i hi => ?_) hz
  simp [World.cell?, hb, hc, List.getElem?_eq_getElem hi]
end Go.Proofs.YtgobnlgmbplggaaGreatDoor

/- Pairs, and rows that were sorted: plain. No program in sight. -/
namespace Go.Proofs.YtgobnlgmbplggaaGreatDoor
open Go.RowKit Go.Sort

section
variable {α : Type} [Inhabited α] (enc : α → Value)
end

/-- A pair of short strings. -/
structure Pair2 where
  paper : ByteArray
  person : ByteArray
  h1 : paper.size ≤ 1000000
  h2 : person.size ≤ 1000000
instance : Inhabited Pair2 := ⟨⟨ByteArray.empty, ByteArray.empty, by decide, by decide⟩⟩
def encP (x : Pair2) : List Value := [.string x.paper, .string x.person]
def RPair : Rel Pair2 := fun _ _ vs x => vs = encP x
theorem RPair.ok : RPair.Ok := ⟨fun _ h => h, fun _ h => h, fun h => h⟩
end Go.Proofs.YtgobnlgmbplggaaGreatDoor
