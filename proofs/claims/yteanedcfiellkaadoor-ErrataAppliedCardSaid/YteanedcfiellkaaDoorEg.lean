/- CopyFinals copies finals. -/
import Derived.Test.YteanedcfiellkaaDoorEf
import Derived.Test.YteanedcfiellkaaDoorGe
namespace Go.Proofs.YteanedcfiellkaaDoor
open Go.RowKit

def CopyPost (xs : List Fin4) (w : World) (e : Ending) (w' : World) : Prop :=
  ∃ p c tag, e = .returned (.slice p xs.length c) ∧ AccI (RFinO 1000) 4 65 (Tag w.heap.size tag) w.heap.size w' (.slice p xs.length c) xs ∧ All w w'
/-- One element of a slice of which the first k have been copied. -/
theorem mix_open {B0 k : Nat} {tag : Nat → Nat} {w : World} {v : Value} {xs : List Fin4} (h : AccI (RB B0) 4 65 (Mix B0 tag) B0 w v (mixL xs k)) (hk : k < xs.length) :
    ∃ x ac cc, xs[k]? = some x ∧ AccH (RB B0) 4 65 (Mix B0 tag) B0 w v (mixL xs k) k [.string x.paper, .string x.title, .int .i64 x.pages, .slice ac x.credits.length cc] ∧ FinSmallR x ∧ x.credits.length ≤ cc ∧ Sl RCred 2 (fun _ => True) w ac x.credits.length x.credits := by
  obtain ⟨vs, hH, hR⟩ := h.open (i := k) (by rw [mixL_length]; exact hk)
  have e1 : (mixL xs k)[k]'(by rw [mixL_length]; exact hk) = (false, xs[k]) := by
    have := mixL_at xs k k
    rw [List.getElem?_eq_getElem (by rw [mixL_length]; exact hk), List.getElem?_eq_getElem hk] at this
    simpa using this
  rw [e1] at hR
  obtain ⟨a, cap, rfl, h1, h2, h3⟩ := hR
  exact ⟨xs[k], a, cap, List.getElem?_eq_getElem hk, hH, h1, h2, h3.mono RCred.ok (fun _ _ => trivial)⟩

set_option maxRecDepth 100000 in
set_option maxHeartbeats 3200000 in
theorem copyFinals_any (a : Option Addr) (len cap : Nat) (xs : List Fin4) (w : World) (hs : Sl RFin 4 (fun _ => True) w a len xs) (hl : len ≤ 1000) :
    Calls Tryd.prog 90 #[.slice a len cap] w (CopyPost xs w) := by
  have hlen := hs.len
  go_enter Tryd.func90, Tryd.ntmps90
  go_wp2_with fail
  refine (cloneFin_any a len cap xs _ hs hl).mono ?_
  rintro e w1 ⟨p, c, rfl, hacc, hw1⟩
  have hM := mix_start hacc
  have hxl : xs.length ≤ 1000 := by omega
  clear hs hacc hlen
  obtain ⟨ll, hll⟩ : ∃ ll, ll = xs.length := ⟨_, rfl⟩
  have HLL := Lib.hid hll
  rw [← hll] at hM hxl ⊢
  clear hll
  go_wp2_with fail
  go_loopw [9] (fun i wr => ∃ (k : Nat) (tag : Nat → Nat), k ≤ ll ∧ i = .int .i64 k ∧ AccI (RB w.heap.size) 4 65 (Mix w.heap.size tag) w.heap.size wr (.slice p ll c) (mixL xs k) ∧ All w wr) (fun i _ => ll - (intOf i).toNat)
  case atStart => exact ⟨0, _, Nat.zero_le _, rfl, hM, hw1⟩
  case round =>
    clear hM hw1
    obtain ⟨k, tag, hk, rfl, hM, hwo⟩ := hrel
    obtain ⟨wo, rfl⟩ : ∃ wo : World, wo = wr := ⟨_, rfl⟩
    by_cases hlt : k < ll
    · obtain ⟨x, ac, cc, hx, hH, hsm, hcc, hcr⟩ := mix_open hM (by have := HLL.out; omega)
      obtain ⟨g, cg, hv, -, hBg⟩ := hH.form
      injection hv with hv1 hv2 hv3
      subst hv1
      have c0 : wo.cell? ⟨g, k * 4, none⟩ = some (.string x.paper) := hH.cell (j := 0) rfl
      have c1 : wo.cell? ⟨g, k * 4 + 1, none⟩ = some (.string x.title) := hH.cell (j := 1) rfl
      have c2 : wo.cell? ⟨g, k * 4 + 2, none⟩ = some (.int .i64 x.pages) := hH.cell (j := 2) rfl
      have c3 : wo.cell? ⟨g, k * 4 + 3, none⟩ = some (.slice ac x.credits.length cc) := hH.cell (j := 3) rfl
      have hgl := (hH.lt g rfl).2
      have HX := Lib.hid hx
      have HSM := Lib.hid hsm
      have hcl : x.credits.length ≤ 1000 := hsm.2.2.2.2
      have hHa := hH.keepAll (RB.ok w.heap.size) (Kept.alloc (fun _ => True) wo (.cells #[.string x.paper, .string x.title, .int .i64 x.pages, .slice ac x.credits.length cc] 65))
      have hcra := hcr.keep RCred.ok (Kept.alloc (fun _ => True) wo (.cells #[.string x.paper, .string x.title, .int .i64 x.pages, .slice ac x.credits.length cc] 65))
      have hwa := hwo.then_alloc (.cells #[.string x.paper, .string x.title, .int .i64 x.pages, .slice ac x.credits.length cc] 65)
      have hblk := heap_at wo (.cells #[.string x.paper, .string x.title, .int .i64 x.pages, .slice ac x.credits.length cc] 65) _ rfl
      have e3 := cell_at (i := 3) hblk rfl
      clear hM hH hcr hwo hx hsm hblk hv2 hv3
      go_wp2_with fail
      refine (cloneCred_any ac x.credits.length cc x.credits _ hcra hcl).mono ?_
      rintro e w2 ⟨p2, cc2, rfl, hacc2, hw2⟩
      have hnx := Lib.hid (mix_next HX.out hHa hw2 HSM.out (hacc2.credAny _))
      have d3 := hw2.cell (Kept.cell (F := fun _ => True) (Kept.alloc _ wo (.cells #[.string x.paper, .string x.title, .int .i64 x.pages, .slice ac x.credits.length cc] 65)) c3 trivial) trivial
      have f3 : w2.frozen? ⟨g, k * 4 + 3, none⟩ = false := (hHa.keepAll (RB.ok w.heap.size) hw2).frozen _
      have hwe := (hwa.trans hw2).then_setNew ⟨g, k * 4 + 3, none⟩ (.slice p2 x.credits.length cc2) hBg
      clear hHa hcra hwa hacc2 hw2
      go_wp2_with fail
      go_roundw
      case rel => exact ⟨k + 1, _, by omega, by go_num, hnx.out, hwe⟩
      case measure => simp [intOf]; omega
    · have hd : decide ((k : Int) < (ll : Int)) = false := by simp; omega
      have hE := Lib.hid (mix_end hM (by have := HLL.out; omega))
      clear hM
      go_wp2_with fail
      go_ret
      have h3 := HLL.out
      subst h3
      exact ⟨_, _, tag, rfl, hE.out, hwo⟩
end Go.Proofs.YteanedcfiellkaaDoor
