/- fieldOf finds the text of an erratum. -/
import Derived.Test.YteanedcfiellkaaDoorEi
import Derived.Test.YteanedcfiellkaaDoorOb
import Derived.Test.YteanedcfiellkaaDoorVd
namespace Go.Proofs.YteanedcfiellkaaDoor
open Go.RowKit

theorem Own.sl {B0 : Nat} {tag : Nat → Nat} {xs : List Fin4} {a : Option Addr} {n c : Nat} {w : World} (h : Own B0 tag xs (.slice a n c) w) : n = xs.length ∧ Sl RFin 4 (fun _ => True) w a xs.length xs := by
  obtain ⟨a1, c1, hv, -⟩ := h.form
  cases hv
  have h1 := h.acc (RFinO.ok 1000) (G := fun _ => True) (fun _ _ _ _ => trivial)
  obtain ⟨a', cap', hv, hsl⟩ := h1.sl (RFinO.ok 1000) (by decide) (G := fun _ => True) (fun _ h => h) (fun _ _ => trivial)
  cases hv
  exact ⟨rfl, hsl.imp fun vs x hx => hx.read (by omega)⟩
theorem findG_cnt {xs : List Fin4} {p : ByteArray} {f : Fin4} (hr : Rises xs) (h : finOf xs p = some f) : findG (isPaper p) 0 xs = (cntOf xs p : Int) := by
  obtain ⟨i, h1, h2⟩ := findG_some h
  obtain ⟨h3, h4⟩ := finOf_cnt hr h
  rw [h1]
  congr 1
  rcases Nat.lt_trichotomy i (cntOf xs p) with hlt | he | hgt
  · have := hr.lt h2 h3 hlt; rw [bl_irrefl] at this; cases this
  · exact he
  · have := hr.lt h3 h2 hgt; rw [bl_irrefl] at this; cases this
def FieldPost (B0 : Nat) (tag : Nat → Nat) (xs : List Fin4) (v : Value) (x : Err5) (w : World) (e : Ending) (w' : World) : Prop :=
  All w w' ∧ ((whereF xs x = none ∧ e = .returned (.pointer none)) ∨ ∃ l ad, whereF xs x = some l ∧ e = .returned (.pointer (some ad)) ∧ Place B0 tag xs v w' l ad)

set_option maxRecDepth 100000 in
set_option maxHeartbeats 3200000 in
theorem fieldOf_any (B0 : Nat) (tag : Nat → Nat) (a : Option Addr) (c : Nat) (xs : List Fin4) (x : Err5) (w : World) (h : Own B0 tag xs (.slice a xs.length c) w) (hr : Rises xs) (hl : xs.length ≤ 1000) :
    Calls Tryd.prog 88 #[.slice a xs.length c, .agg #[.string x.paper, .int .i64 x.field, .string x.key, .string x.old, .string x.new]] w (FieldPost B0 tag xs (.slice a xs.length c) x w) := by
  have hsl := (Own.sl h).2
  have hk0 : All w (w.alloc (.cells #[.string x.paper, .int .i64 x.field, .string x.key, .string x.old, .string x.new] 124)) := Kept.alloc _ _ _
  have hblk := heap_at w (.cells #[.string x.paper, .int .i64 x.field, .string x.key, .string x.old, .string x.new] 124) _ rfl
  have e1 := cell_at (i := 1) hblk rfl
  have e2 := cell_at (i := 2) hblk rfl
  clear hblk
  cases hfo : finOf xs x.paper with
  | none =>
    have hwh : whereF xs x = none := by unfold whereF; rw [hfo]
    have hso : (finOf xs x.paper).isSome = false := by rw [hfo]; rfl
    have HWH := Lib.hid hwh
    clear hfo hwh
    go_enter Tryd.func88, Tryd.ntmps88
    go_wp2_with fail
    refine (final_any a xs.length c xs x.paper _ (hsl.keep RFin.ok hk0) hl hr).mono ?_
    rintro e w2 ⟨rfl, hw2⟩
    have hk2 := hk0.trans hw2
    have b1 := hw2.cell e1 trivial
    have b2 := hw2.cell e2 trivial
    rw [hso]
    go_wp2_with fail
    go_ret
    exact ⟨hk2, Or.inl ⟨HWH.out, rfl⟩⟩
  | some f =>
    have hso : (finOf xs x.paper).isSome = true := by rw [hfo]; rfl
    obtain ⟨hix, hfp⟩ := finOf_cnt hr hfo
    have hfc := findG_cnt hr hfo
    have hil : cntOf xs x.paper < xs.length := by
      obtain ⟨hh, -⟩ := List.getElem?_eq_some_iff.1 hix
      exact hh
    obtain ⟨g, cg, vs0, hv0, hBg, -⟩ := h.at (i := 0) (by omega)
    injection hv0 with hv1 hv2 hv3
    subst hv1
    subst hv3
    clear hv2 hfp
    by_cases hfd : x.field = 1
    · have d1 : (x.field == 1) = true := by simp [hfd]
      have HWH := Lib.hid (show whereF xs x = some ⟨cntOf xs x.paper, none⟩ by unfold whereF; rw [hfo]; simp [hfd, hfc])
      have HPL := Lib.hid (fun (wx : World) (hw : All w wx) => place_title (h.keepAll (RFinO.ok 1000) hw) hix)
      clear hfo hix hfc hfd h
      go_enter Tryd.func88, Tryd.ntmps88
      go_wp2_with fail
      refine (final_any (some ⟨g, 0, none⟩) xs.length _ xs x.paper _ (hsl.keep RFin.ok hk0) hl hr).mono ?_
      rintro e w2 ⟨rfl, hw2⟩
      have hk2 := hk0.trans hw2
      have b1 := hw2.cell e1 trivial
      have b2 := hw2.cell e2 trivial
      rw [hso]
      go_wp2_with fail
      go_ret
      exact ⟨hk2, Or.inr ⟨_, _, HWH.out, rfl, HPL.out _ hk2⟩⟩
    · have d1 : (x.field == 1) = false := by simp [hfd]
      obtain ⟨bf, of, f', ac, cc, haf, -, -, -, -, q3, hfsm, hcc, hcr, hf', -, -⟩ := hsl.atFin hil
      have hff : f' = f := by rw [hix] at hf'; injection hf' with hf'; exact hf'.symm
      subst hff
      cases haf
      rw [Nat.zero_add] at q3
      have hcl : f'.credits.length ≤ 1000 := hfsm.2.2.2.2
      have HIX := Lib.hid hix
      by_cases hneg : findG (hasKey x.key) 0 f'.credits < 0
      · have HWH := Lib.hid (show whereF xs x = none by unfold whereF; rw [hfo]; simp [hfd, hneg])
        clear hfo hix hfc hfd hf' h
        go_enter Tryd.func88, Tryd.ntmps88
        go_wp2_with fail
        refine (final_any (some ⟨g, 0, none⟩) xs.length _ xs x.paper _ (hsl.keep RFin.ok hk0) hl hr).mono ?_
        rintro e w2 ⟨rfl, hw2⟩
        have hk2 := hk0.trans hw2
        have b1 := hw2.cell e1 trivial
        have b2 := hw2.cell e2 trivial
        have q5 := hk2.cell q3 trivial
        rw [hso]
        go_wp2_with fail
        go_region_held3 (fun w' => w'.cell? ⟨g, cntOf xs x.paper * 4 + 3, none⟩ = some (.slice ac f'.credits.length cc) ∧ w'.cell? ⟨w.heap.size, 2, none⟩ = some (.string x.key)) (first | go_keep | exact ⟨by assumption, by assumption⟩) ((go_at_call 114; refine (credit_any ac f'.credits.length cc f'.credits x.key _ ((hcr.keep RCred.ok hk2).keep RCred.ok (by repeat (first | exact Kept.refl _ _ | refine Kept.then_drew ?_ | refine Kept.then_alloc ?_ _))) (by omega)).mono ?_; rintro e w3 ⟨rfl, hw3⟩; have hk3 : All w2 w3 := Kept.trans (by repeat (first | exact Kept.refl _ _ | refine Kept.then_drew ?_ | refine Kept.then_alloc ?_ _)) hw3; have q7 := hk3.cell q5 trivial; have q8 := hk3.cell b2 trivial))
        go_wp2_with fail
        go_ret
        exact ⟨hk2.trans hk3, Or.inl ⟨HWH.out, rfl⟩⟩
      · obtain ⟨k, hkk⟩ := Int.eq_ofNat_of_zero_le (show 0 ≤ findG (hasKey x.key) 0 f'.credits by omega)
        have hkl : k < f'.credits.length := by
          rcases findG_find (p := hasKey x.key) (xs := f'.credits) (k := 0) with ⟨-, h2⟩ | ⟨i, y, -, h2, h3⟩
          · omega
          · obtain ⟨hh, -⟩ := List.getElem?_eq_some_iff.1 h3
            rw [hkk] at h2
            omega
        have HWH := Lib.hid (show whereF xs x = some ⟨cntOf xs x.paper, some k⟩ by unfold whereF; rw [hfo]; simp [hfd, hfc, hkk])
        have HPL := Lib.hid (fun (wx : World) (hw : All w wx) => place_name (h.keepAll (RFinO.ok 1000) hw) HIX.out hkl)
        have HKK := Lib.hid hkk
        clear hfo hix hfc hfd hf' h hneg hkk
        go_enter Tryd.func88, Tryd.ntmps88
        go_wp2_with fail
        refine (final_any (some ⟨g, 0, none⟩) xs.length _ xs x.paper _ (hsl.keep RFin.ok hk0) hl hr).mono ?_
        rintro e w2 ⟨rfl, hw2⟩
        have hk2 := hk0.trans hw2
        have b1 := hw2.cell e1 trivial
        have b2 := hw2.cell e2 trivial
        have q5 := hk2.cell q3 trivial
        rw [hso]
        go_wp2_with fail
        go_region_held3 (fun w' => w'.cell? ⟨g, cntOf xs x.paper * 4 + 3, none⟩ = some (.slice ac f'.credits.length cc) ∧ w'.cell? ⟨w.heap.size, 2, none⟩ = some (.string x.key)) (first | go_keep | exact ⟨by assumption, by assumption⟩) ((go_at_call 114; refine (credit_any ac f'.credits.length cc f'.credits x.key _ ((hcr.keep RCred.ok hk2).keep RCred.ok (by repeat (first | exact Kept.refl _ _ | refine Kept.then_drew ?_ | refine Kept.then_alloc ?_ _))) (by omega)).mono ?_; rintro e w3 ⟨rfl, hw3⟩; have hk3 : All w2 w3 := Kept.trans (by repeat (first | exact Kept.refl _ _ | refine Kept.then_drew ?_ | refine Kept.then_alloc ?_ _)) hw3; have q7 := hk3.cell q5 trivial; have q8 := hk3.cell b2 trivial))
        rw [HKK.out]
        have hk4 := hk2.trans hk3
        obtain ⟨cb, cc', q6, hpl⟩ := HPL.out _ hk4
        have hac := q7.symm.trans q6
        injection hac with hac
        injection hac with hac1 hac2 hac3
        subst hac1
        clear hac2 hac3 q6
        have hk5 : (0 : Int) ≤ (k : Int) := by omega
        have hk6 : (k : Int) < (f'.credits.length : Int) := by omega
        go_wp2_with fail
        go_ret
        exact ⟨hk4, Or.inr ⟨_, _, HWH.out, rfl, hpl⟩⟩
end Go.Proofs.YteanedcfiellkaaDoor
