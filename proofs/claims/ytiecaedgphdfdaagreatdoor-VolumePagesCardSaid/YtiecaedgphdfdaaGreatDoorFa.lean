/- Finals: how they lie in memory; BookName and RightFinals make well-formed ones. -/
import Derived.Test.YtiecaedgphdfdaaGreatDoorZc
import Derived.Test.YtiecaedgphdfdaaGreatDoorZe
namespace Go.Proofs.YtiecaedgphdfdaaGreatDoor
open Go.RowKit

structure Cred where
  key : ByteArray
  name : ByteArray
structure Fin4 where
  paper : ByteArray
  title : ByteArray
  pages : Int
  credits : List Cred

def RCred : Rel Cred := fun _ _ vs x => vs = [.string x.key, .string x.name] ∧ x.key.size ≤ 1000000 ∧ x.name.size ≤ 1000000
theorem RCred.ok : RCred.Ok := ⟨fun _ h => h, fun _ h => h, fun h => h⟩
theorem Acc.credAny {T : TypeId} {F : Nat → Prop} (G : Nat → Prop) {B : Nat} {w : World} {v : Value} {ss : List Cred} (h : Acc RCred 2 T F B w v ss) : Acc RCred 2 T G B w v ss := h

/-- What is small in a final. -/
def FinSmall (m : Nat) (x : Fin4) : Prop := x.paper.size ≤ 1000000 ∧ x.title.size ≤ 1000000 ∧ -2000000000000 ≤ x.pages ∧ x.pages ≤ 2000000000000 ∧ x.credits.length ≤ m
abbrev FinSmallR (x : Fin4) : Prop := FinSmall 1000 x
/-- A final whose credits lie in a row of their own. -/
def RFinO (m : Nat) : Rel Fin4 := fun F w vs x => ∃ cv, vs = [.string x.paper, .string x.title, .int .i64 x.pages, cv] ∧ FinSmall m x ∧ Acc RCred 2 104 (fun _ => False) 0 w cv x.credits ∧ ∀ k, cv.ownBlock = some k → F k
theorem RFinO.ok (m : Nat) : (RFinO m).Ok := by
  refine ⟨?_, ?_, ?_⟩
  · rintro F w w' vs x hk ⟨cv, rfl, h1, h2, h3⟩
    exact ⟨cv, rfl, h1, h2.keep RCred.ok hk (fun _ h => h.elim) h3, h3⟩
  · rintro F G w vs x hk ⟨cv, rfl, h1, h2, h3⟩
    exact ⟨cv, rfl, h1, h2, fun k hk' => hk k (h3 k hk')⟩
  · rintro F w vs x ⟨cv, rfl, h1, h2, h3⟩
    exact ⟨cv, rfl, h1, h2, fun k hk' => ⟨h3 k hk', (h2.lt k hk').2⟩⟩
/-- A final, as it is read. -/
def RFin : Rel Fin4 := fun F w vs x => ∃ a cap, vs = [.string x.paper, .string x.title, .int .i64 x.pages, .slice a x.credits.length cap] ∧ FinSmallR x ∧ x.credits.length ≤ cap ∧ Sl RCred 2 F w a x.credits.length x.credits
theorem RFin.ok : RFin.Ok := by
  refine ⟨?_, ?_, ?_⟩
  · rintro F w w' vs x hk ⟨a, cap, rfl, h1, h2, h3⟩
    exact ⟨a, cap, rfl, h1, h2, h3.keep RCred.ok hk⟩
  · rintro F G w vs x hk ⟨a, cap, rfl, h1, h2, h3⟩
    exact ⟨a, cap, rfl, h1, h2, h3.mono RCred.ok hk⟩
  · rintro F w vs x ⟨a, cap, rfl, h1, h2, h3⟩
    exact ⟨a, cap, rfl, h1, h2, h3.live RCred.ok (by decide)⟩
theorem RFinO.read {m : Nat} (hm : m ≤ 1000) {F : Nat → Prop} {w : World} {vs : List Value} {x : Fin4} (h : RFinO m F w vs x) : RFin F w vs x := by
  obtain ⟨cv, rfl, h1, h2, h3⟩ := h
  obtain ⟨a, cap, rfl, hc⟩ := h2.form
  obtain ⟨a', cap', hv, hsl⟩ := h2.sl RCred.ok (by decide) (G := F) (fun _ h => h.elim) h3
  cases hv
  exact ⟨a, cap, rfl, ⟨h1.1, h1.2.1, h1.2.2.1, h1.2.2.2.1, by have := h1.2.2.2.2; omega⟩, hc, hsl⟩
theorem Sl.imp {α : Type} {R R' : Rel α} {sz : Nat} {F : Nat → Prop} {w : World} {a : Option Addr} {len : Nat} {xs : List α} (hR : ∀ vs x, R F w vs x → R' F w vs x) (h : Sl R sz F w a len xs) : Sl R' sz F w a len xs := by
  refine ⟨h.1, fun hl => ?_⟩
  obtain ⟨b, off, ha, hF, hc⟩ := h.2 hl
  refine ⟨b, off, ha, hF, fun i hi => ?_⟩
  obtain ⟨vs, h1, h2, h3⟩ := hc i hi
  exact ⟨vs, h1, h2, hR _ _ h3⟩

set_option maxRecDepth 100000 in
theorem bookName_any (σ : St) (n : Nat) (w : World) (hs : Str σ w n) (hn : n ≤ 4611686018427380000) :
    Calls Tryz.prog 106 #[.pointer (some ⟨σ.b, 0, none⟩)] w (StPost σ n 1 w (IsStr fun r => r.size ≤ 1000000)) := by
  have hlt := hs.lt
  go_enter Tryz.func106, Tryz.ntmps106
  go_wp2_with fail
  refine (some10_any σ n _ _ _ ["Ann Lee".toUTF8, "Bob van der Ray".toUTF8, "van Ray".toUTF8, "de la Cruz".toUTF8, "Jean-Luc de la Cruz".toUTF8, "Plato".toUTF8, "ann lee".toUTF8, ⟨#[67, 105, 100, 32, 79, 39, 78, 101, 105, 108]⟩, ⟨#[195, 137, 109, 105, 108, 101, 45, 195, 137, 108, 97, 110, 32, 90, 111, 108]⟩, "A. B- Moe".toUTF8, "la".toUTF8, "Dee da".toUTF8, "Ann-".toUTF8, "-Ann Lee".toUTF8] _ (hs.keep (Kept.alloc _ _ _)) (by omega) (Sl.lit_strs _ (heap_at _ _ _ rfl) rfl (by omega)) (by simp) (by simp)).mono ?_
  rintro e w2 ⟨v, m2, rfl, ⟨r, rfl, hr, hz⟩, hm3, hm4, hs2, hb2⟩
  go_wp2_with fail
  go_ret
  exact ⟨_, m2, rfl, ⟨_, rfl, hz⟩, by omega, by omega, hs2, (Kept.alloc _ _ _).trans hb2⟩
end Go.Proofs.YtiecaedgphdfdaaGreatDoor
