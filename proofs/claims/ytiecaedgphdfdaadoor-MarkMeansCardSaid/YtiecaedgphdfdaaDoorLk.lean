/- The law MarkMeans, walked. -/
import Derived.Test.YtiecaedgphdfdaaDoorRk
import Derived.Test.YtiecaedgphdfdaaDoorRi
import Derived.Test.YtiecaedgphdfdaaDoorWb
namespace Go.Proofs.YtiecaedgphdfdaaDoor
open Go.RowKit

theorem meanE_marks {xs : List Mark3} {p : ByteArray} (h : marksF xs ≠ 0) : meanE xs p = marksF xs := by rw [meanE, if_pos h]
theorem meanE_name {xs : List Mark3} {p : ByteArray} (h : marksF xs = 0) (h2 : isKeyB p = false) : meanE xs p = 5 := by rw [meanE, if_neg (by simp [h]), if_pos h2]
theorem meanE_none {xs : List Mark3} {p : ByteArray} (h : marksF xs = 0) (h2 : isKeyB p = true) (h3 : scs xs p = []) : meanE xs p = 8 := by rw [meanE, if_neg (by simp [h]), if_neg (by simp [h2]), if_pos h3]
theorem meanE_ok {xs : List Mark3} {p : ByteArray} (h : marksF xs = 0) (h2 : isKeyB p = true) (h3 : scs xs p ≠ []) : meanE xs p = 0 := by rw [meanE, if_neg (by simp [h]), if_neg (by simp [h2]), if_neg h3]

set_option maxRecDepth 100000 in
set_option maxHeartbeats 6400000 in
theorem markMeans_walk (a : Option Addr) (len cap : Nat) (w : World) (h : IsRow w a len cap) :
    Calls Tryd.prog 3 #[.slice a len cap] w fun e w' => e = .returned (.bool true) ∧ Below w.heap.size w w' := by
  have hst := h.start
  obtain ⟨σ, hσ⟩ : ∃ σ : St, σ = ⟨w.heap.size, a, len, cap⟩ := ⟨_, rfl⟩
  have hσb : σ.b = w.heap.size := by rw [hσ]
  rw [← hσ] at hst
  have Hσ := Lib.hid hσb
  have hptr : (Value.pointer (some ⟨w.heap.size, 0, none⟩)) = Value.pointer (some ⟨σ.b, 0, none⟩) := by rw [hσb]
  have Hptr := Lib.hid hptr
  have hk0 : Kept (fun k => k ≠ σ.b) w (w.alloc (.cells #[.slice a len cap, .int .i64 0] 25)) := Kept.alloc _ _ _
  clear hσ hσb hptr h
  go_enter Tryd.func3, Tryd.ntmps3
  go_wp2_with fail
  simp only [Hptr.out]
  generalize w.alloc (.cells #[.slice a len cap, .int .i64 0] 25) = w0 at *
  have hlt0 := hst.lt
  refine (marks10_any σ 0 _ hst (by omega)).mono ?_
  rintro e w1 ⟨v, n1, rfl, ⟨xs, hxl, hacc⟩, hn1, hn2, hs1, hb1⟩
  obtain ⟨am, cm, rfl, hsl⟩ := hacc.sl RMark.ok (by decide) (G := fun k => k ≠ σ.b) (fun _ h => h.elim) (fun k hk => by have := (hacc.lt k hk).1; omega)
  obtain ⟨m, hm⟩ : ∃ m, m = xs.length := ⟨_, rfl⟩
  rw [← hm] at hsl hxl ⊢
  have hk1 := hk0.trans hb1
  have hlt1 := hs1.lt
  clear hm hacc hst hk0 hb1
  go_wp2_with fail
  refine (pick_any σ n1 _ _ _ [0, 0, 1, 2, 3, 4] _ (hs1.keep (by repeat (first | exact Kept.refl _ _ | refine Kept.then_alloc ?_ _))) (by omega) (Sl.lit_ints _ (heap_at _ _ _ (by simp)) rfl (by simp; omega)) (by simp) (by simp)).mono ?_
  rintro e w2 ⟨v, n2, rfl, ⟨r, rfl, hr⟩, hn3, hn4, hs2, hb2⟩
  have hr5 : 0 ≤ r ∧ r < 5 := by simp at hr; omega
  obtain ⟨i, rfl⟩ := Int.eq_ofNat_of_zero_le hr5.1
  have hi5 : i < 5 := by omega
  have hblk := hb2.heap (heap_old _ (heap_at w1 _ _ rfl)) (by omega)
  have hb12 : But σ.b w1 w2 := Kept.trans (by repeat (first | exact Kept.refl _ _ | refine Kept.then_alloc ?_ _)) hb2
  obtain ⟨y, hcy, hyz⟩ : ∃ y : ByteArray, w2.cell? ⟨w1.heap.size, i, none⟩ = some (.string y) ∧ y.size ≤ 1000000 := by
    obtain ⟨b', off', y, ha', -, hcy, hyz, -, -, -⟩ := (Sl.lit_strs (F := fun _ => True) [⟨#[112, 97]⟩, ⟨#[112, 98]⟩, ⟨#[112, 99]⟩, ⟨#[]⟩, ⟨#[65]⟩] hblk rfl trivial).atStr (k := i) (by simp; omega)
    simp only [Option.some.injEq, Addr.mk.injEq] at ha'
    obtain ⟨rfl, rfl, -⟩ := ha'
    exact ⟨y, by simpa using hcy, hyz⟩
  have hk2 := hk1.trans hb12
  have hsl2 := (hsl.keep RMark.ok hb12).mono RMark.ok (G := fun _ => True) (fun _ _ => trivial)
  have Hend := Lib.hid (show ∀ wx, All w2 wx → Below w.heap.size w wx from fun wx hw => (hk2.trans (Kept.all hw)).below (Nat.le_refl _) (fun k hk => by have := Hσ.out; omega))
  have hm20 : m ≤ 1000 := by omega
  clear hr hr5 hblk hb12 hb2 hs2 hk1 hk2 hsl hs1 hn1 hn2 hn3 hn4 hxl
  go_wp2_with fail
  refine (mean_any am m cm xs y _ hsl2 (by omega) hyz).mono ?_
  rintro e w3 ⟨hne, he0, hw3⟩
  by_cases h1 : marksF xs = 0
  · cases h2 : isKeyB y with
    | false =>
      have h0 := meanE_name h1 h2
      have he := hne (by rw [h0]; decide)
      rw [h0] at he
      have hky : (if isKeyB y = true then (0 : Int) else 5) = 5 := by rw [h2]; decide
      have hf : firstV [0, 5] = 5 := by decide
      have H1 := Lib.hid h1
      have HF := Lib.hid hf
      have HKY := Lib.hid hky
      subst he
      clear hne he0 h0 hf h1 hky h2
      go_wp2_with fail
      refine (marksFault_any am m cm xs _ (hsl2.keep RMark.ok (hw3.then_alloc _)) (by omega)).mono ?_
      rintro e w4 ⟨rfl, hw4⟩
      have hq4 : All w2 w4 := (hw3.then_alloc _).trans hw4
      have hx4 := hw4.heap (heap_at w3 _ _ rfl) trivial
      clear hw4
      rw [H1.out]
      go_wp2_with fail
      refine (checkMarks_any am m cm xs _ (hsl2.keep RMark.ok hq4) (by omega)).mono ?_
      rintro e w5 ⟨rfl, hw5⟩
      have hlt35 : w3.heap.size < w5.heap.size := by have h1 := (Array.getElem?_eq_some_iff.1 hx4).1; have h2 := hw5.size; omega
      have hq5 : All w2 w5 := hq4.trans hw5
      have hx5 := hw5.heap hx4 trivial
      clear hw5 hx4
      rw [H1.out]
      go_wp2_with fail
      refine (keyFault_any y _ hyz).mono ?_
      rintro e w6 ⟨he6, hw6⟩
      rw [HKY.out] at he6
      subst he6
      have hq6 : All w2 w6 := (hq5.then_alloc _).trans hw6
      have hx6 := hw6.heap (heap_old _ hx5) trivial
      have hv6 := hw6.heap (heap_at w5 _ _ rfl) trivial
      have hlt65 : w5.heap.size < w6.heap.size := (Array.getElem?_eq_some_iff.1 hv6).1
      clear hw6 hx5
      go_wp2_with fail
      refine (errsV_any (some ⟨w6.heap.size, 0, none⟩) 2 2 [0, 5] _ (Sl.lit_ints _ (heap_at _ _ _ rfl) rfl trivial) (by omega)).mono ?_
      rintro e w' ⟨rfl, rfl⟩
      rw [HF.out]
      have hlt36 : w3.heap.size < w6.heap.size := (Array.getElem?_eq_some_iff.1 hx6).1
      have x0 := cell_at (i := 0) hx6 rfl
      have x1 := cell_at (i := 1) hx6 rfl
      have v0 := cell_at (i := 0) hv6 rfl
      have v1 := cell_at (i := 1) hv6 rfl
      clear hx6 hv6
      go_wp2_with fail
      refine (talked_any _).mono ?_
      rintro e w7 ⟨rfl, hw7⟩
      go_wp2_with fail
      go_ret
      exact ⟨rfl, Hend.out _ ((hq6.then_alloc _).trans hw7)⟩
    | true =>
      by_cases h3 : scs xs y = []
      · have h0 := meanE_none h1 h2 h3
        have he := hne (by rw [h0]; decide)
        rw [h0] at he
        have hky : (if isKeyB y = true then (0 : Int) else 5) = 0 := by rw [h2]; decide
        have hf : firstV [0, 0] = 0 := by decide
        have H1 := Lib.hid h1
        have HF := Lib.hid hf
        have H3 := Lib.hid h3
        have HKY := Lib.hid hky
        subst he
        clear hne he0 h0 hf h1 hky h2 h3
        go_wp2_with fail
        refine (marksFault_any am m cm xs _ (hsl2.keep RMark.ok (hw3.then_alloc _)) (by omega)).mono ?_
        rintro e w4 ⟨rfl, hw4⟩
        have hq4 : All w2 w4 := (hw3.then_alloc _).trans hw4
        have hx4 := hw4.heap (heap_at w3 _ _ rfl) trivial
        clear hw4
        rw [H1.out]
        go_wp2_with fail
        refine (checkMarks_any am m cm xs _ (hsl2.keep RMark.ok hq4) (by omega)).mono ?_
        rintro e w5 ⟨rfl, hw5⟩
        have hlt35 : w3.heap.size < w5.heap.size := by have h1 := (Array.getElem?_eq_some_iff.1 hx4).1; have h2 := hw5.size; omega
        have hq5 : All w2 w5 := hq4.trans hw5
        have hx5 := hw5.heap hx4 trivial
        clear hw5 hx4
        rw [H1.out]
        go_wp2_with fail
        refine (keyFault_any y _ hyz).mono ?_
        rintro e w6 ⟨he6, hw6⟩
        rw [HKY.out] at he6
        subst he6
        have hq6 : All w2 w6 := (hq5.then_alloc _).trans hw6
        have hx6 := hw6.heap (heap_old _ hx5) trivial
        have hv6 := hw6.heap (heap_at w5 _ _ rfl) trivial
        have hlt65 : w5.heap.size < w6.heap.size := (Array.getElem?_eq_some_iff.1 hv6).1
        clear hw6 hx5
        go_wp2_with fail
        refine (errsV_any (some ⟨w6.heap.size, 0, none⟩) 2 2 [0, 0] _ (Sl.lit_ints _ (heap_at _ _ _ rfl) rfl trivial) (by omega)).mono ?_
        rintro e w' ⟨rfl, rfl⟩
        rw [HF.out]
        go_wp2_with fail
        refine (meanOf_any am m cm xs y _ (hsl2.keep RMark.ok (hq6.then_alloc _)) H1.out).mono ?_
        rintro e w7 ⟨hy0, hy1, hw7⟩
        have he := hy0 H3.out
        subst he
        have hq7 : All w2 w7 := (hq6.then_alloc _).trans hw7
        have hx7 := hw7.heap (heap_old _ hx6) trivial
        have hv7 := hw7.heap (heap_old _ hv6) trivial
        have hlt75 : w5.heap.size < w7.heap.size := (Array.getElem?_eq_some_iff.1 hv7).1
        clear hy0 hy1 hw7 hx6 hv6
        have hq8 : All w2 (w7.alloc (.cells #[.int .i64 0, .int .i64 0] 31)) := hq7.then_alloc _
        have hx8 := heap_old (.cells #[.int .i64 0, .int .i64 0] 31) hx7
        have hv8 := heap_old (.cells #[.int .i64 0, .int .i64 0] 31) hv7
        have hy8 := heap_at w7 (.cells #[.int .i64 0, .int .i64 0] 31) _ rfl
        have hne1 : w7.heap.size ≠ w5.heap.size := by omega
        have hne2 : w3.heap.size ≠ w5.heap.size := by omega
        have hnv : w2.heap.size ≤ w5.heap.size := hq5.size
        clear hx7 hv7
        go_wp2_with fail
        generalize w7.alloc (.cells #[.int .i64 0, .int .i64 0] 31) = w8 at *
        obtain ⟨yb, hyb⟩ : ∃ b, b = w7.heap.size := ⟨_, rfl⟩
        obtain ⟨vb, hvb⟩ : ∃ b, b = w5.heap.size := ⟨_, rfl⟩
        obtain ⟨xb, hxb⟩ : ∃ b, b = w3.heap.size := ⟨_, rfl⟩
        rw [← hyb] at hy8 hne1 ⊢
        rw [← hvb] at hv8 hne1 hne2 hnv ⊢
        rw [← hxb] at hx8 hne2 ⊢
        have y0 := cell_at (i := 0) hy8 rfl
        have y1 := cell_at (i := 1) hy8 rfl
        have v0 := cell_at (i := 0) hv8 rfl
        have v1 := cell_at (i := 1) hv8 rfl
        have z0 := frozen_at (i := 0) hv8
        have z1 := frozen_at (i := 1) hv8
        have x0 := cell_at (i := 0) hx8 rfl
        have x1 := cell_at (i := 1) hx8 rfl
        clear hyb hvb hxb hx8 hv8 hy8 hq7 hlt35 hlt65 hlt75 hq6 hq5 hq4 hw3
        go_region_with ((go_at_call 12; refine (whenV_any _ _ _).mono ?_; rintro e w' ⟨rfl, rfl⟩))
        all_goals
          go_wp2_with fail
          refine (talked_any _).mono ?_
          rintro e w9 ⟨rfl, hw9⟩
          go_wp2_with fail
          go_ret
          exact ⟨rfl, Hend.out _ (Kept.trans (by repeat (first | exact hq8 | refine Kept.then_drew ?_ | refine Kept.then_setNew ?_ _ _ (by simpa using hnv))) hw9)⟩
      · have h0 := meanE_ok h1 h2 h3
        have he := he0 h0
        have hky : (if isKeyB y = true then (0 : Int) else 5) = 0 := by rw [h2]; decide
        have hf : firstV [0, 0] = 0 := by decide
        have H1 := Lib.hid h1
        have HF := Lib.hid hf
        have H3 := Lib.hid h3
        have HKY := Lib.hid hky
        subst he
        clear hne he0 h0 hf h1 hky h2 h3
        go_wp2_with fail
        refine (marksFault_any am m cm xs _ (hsl2.keep RMark.ok (hw3.then_alloc _)) (by omega)).mono ?_
        rintro e w4 ⟨rfl, hw4⟩
        have hq4 : All w2 w4 := (hw3.then_alloc _).trans hw4
        have hx4 := hw4.heap (heap_at w3 _ _ rfl) trivial
        clear hw4
        rw [H1.out]
        go_wp2_with fail
        refine (checkMarks_any am m cm xs _ (hsl2.keep RMark.ok hq4) (by omega)).mono ?_
        rintro e w5 ⟨rfl, hw5⟩
        have hlt35 : w3.heap.size < w5.heap.size := by have h1 := (Array.getElem?_eq_some_iff.1 hx4).1; have h2 := hw5.size; omega
        have hq5 : All w2 w5 := hq4.trans hw5
        have hx5 := hw5.heap hx4 trivial
        clear hw5 hx4
        rw [H1.out]
        go_wp2_with fail
        refine (keyFault_any y _ hyz).mono ?_
        rintro e w6 ⟨he6, hw6⟩
        rw [HKY.out] at he6
        subst he6
        have hq6 : All w2 w6 := (hq5.then_alloc _).trans hw6
        have hx6 := hw6.heap (heap_old _ hx5) trivial
        have hv6 := hw6.heap (heap_at w5 _ _ rfl) trivial
        have hlt65 : w5.heap.size < w6.heap.size := (Array.getElem?_eq_some_iff.1 hv6).1
        clear hw6 hx5
        go_wp2_with fail
        refine (errsV_any (some ⟨w6.heap.size, 0, none⟩) 2 2 [0, 0] _ (Sl.lit_ints _ (heap_at _ _ _ rfl) rfl trivial) (by omega)).mono ?_
        rintro e w' ⟨rfl, rfl⟩
        rw [HF.out]
        go_wp2_with fail
        refine (meanOf_any am m cm xs y _ (hsl2.keep RMark.ok (hq6.then_alloc _)) H1.out).mono ?_
        rintro e w7 ⟨hy0, hy1, hw7⟩
        have he := hy1 H3.out
        subst he
        have hq7 : All w2 w7 := (hq6.then_alloc _).trans hw7
        have hx7 := hw7.heap (heap_old _ hx6) trivial
        have hv7 := hw7.heap (heap_old _ hv6) trivial
        have hlt75 : w5.heap.size < w7.heap.size := (Array.getElem?_eq_some_iff.1 hv7).1
        clear hy0 hy1 hw7 hx6 hv6
        have hq8 : All w2 (w7.alloc (.cells #[.int .i64 (meanN xs y), .int .i64 (meanD xs y)] 31)) := hq7.then_alloc _
        have hx8 := heap_old (.cells #[.int .i64 (meanN xs y), .int .i64 (meanD xs y)] 31) hx7
        have hv8 := heap_old (.cells #[.int .i64 (meanN xs y), .int .i64 (meanD xs y)] 31) hv7
        have hy8 := heap_at w7 (.cells #[.int .i64 (meanN xs y), .int .i64 (meanD xs y)] 31) _ rfl
        have hne1 : w7.heap.size ≠ w5.heap.size := by omega
        have hne2 : w3.heap.size ≠ w5.heap.size := by omega
        have hnv : w2.heap.size ≤ w5.heap.size := hq5.size
        clear hx7 hv7
        go_wp2_with fail
        generalize w7.alloc (.cells #[.int .i64 (meanN xs y), .int .i64 (meanD xs y)] 31) = w8 at *
        obtain ⟨yb, hyb⟩ : ∃ b, b = w7.heap.size := ⟨_, rfl⟩
        obtain ⟨vb, hvb⟩ : ∃ b, b = w5.heap.size := ⟨_, rfl⟩
        obtain ⟨xb, hxb⟩ : ∃ b, b = w3.heap.size := ⟨_, rfl⟩
        rw [← hyb] at hy8 hne1 ⊢
        rw [← hvb] at hv8 hne1 hne2 hnv ⊢
        rw [← hxb] at hx8 hne2 ⊢
        have y0 := cell_at (i := 0) hy8 rfl
        have y1 := cell_at (i := 1) hy8 rfl
        have v0 := cell_at (i := 0) hv8 rfl
        have v1 := cell_at (i := 1) hv8 rfl
        have z0 := frozen_at (i := 0) hv8
        have z1 := frozen_at (i := 1) hv8
        have x0 := cell_at (i := 0) hx8 rfl
        have x1 := cell_at (i := 1) hx8 rfl
        clear hyb hvb hxb hx8 hv8 hy8 hq7 hlt35 hlt65 hlt75 hq6 hq5 hq4 hw3
        go_region_with ((go_at_call 12; refine (whenV_any _ _ _).mono ?_; rintro e w' ⟨rfl, rfl⟩))
        all_goals
          go_wp2_with fail
          refine (talked_any _).mono ?_
          rintro e w9 ⟨rfl, hw9⟩
          go_wp2_with fail
          go_ret
          exact ⟨rfl, Hend.out _ (Kept.trans (by repeat (first | exact hq8 | refine Kept.then_drew ?_ | refine Kept.then_setNew ?_ _ _ (by simpa using hnv))) hw9)⟩
  · have h0 := meanE_marks (p := y) h1
    have he := hne (by rw [h0]; exact h1)
    rw [h0] at he
    obtain ⟨er, her⟩ : ∃ er, er = marksF xs := ⟨_, rfl⟩
    rw [← her] at he
    have hq1 : (er != er) = false := by simp
    have hq2 : (er == 0) = false := by rw [her]; simpa using h1
    obtain ⟨ky, hky⟩ : ∃ ky : Int, (if isKeyB y = true then (0 : Int) else 5) = ky := ⟨_, rfl⟩
    have hf : firstV [er, ky] = er := by rw [firstV, if_pos (by rw [her]; exact h1)]
    have HER := Lib.hid her
    have HF := Lib.hid hf
    have HKY := Lib.hid hky
    subst he
    clear hne he0 h0 hf h1 hky her
    go_wp2_with fail
    refine (marksFault_any am m cm xs _ (hsl2.keep RMark.ok (hw3.then_alloc _)) (by omega)).mono ?_
    rintro e w4 ⟨rfl, hw4⟩
    have hq4 : All w2 w4 := (hw3.then_alloc _).trans hw4
    have hx4 := hw4.heap (heap_at w3 _ _ rfl) trivial
    clear hw4
    rw [← HER.out]
    go_wp2_with fail
    refine (checkMarks_any am m cm xs _ (hsl2.keep RMark.ok hq4) (by omega)).mono ?_
    rintro e w5 ⟨rfl, hw5⟩
    have hlt35 : w3.heap.size < w5.heap.size := by have h1 := (Array.getElem?_eq_some_iff.1 hx4).1; have h2 := hw5.size; omega
    have hq5 : All w2 w5 := hq4.trans hw5
    have hx5 := hw5.heap hx4 trivial
    clear hw5 hx4
    rw [← HER.out]
    go_wp2_with fail
    refine (keyFault_any y _ hyz).mono ?_
    rintro e w6 ⟨he6, hw6⟩
    rw [HKY.out] at he6
    subst he6
    have hq6 : All w2 w6 := (hq5.then_alloc _).trans hw6
    have hx6 := hw6.heap (heap_old _ hx5) trivial
    have hv6 := hw6.heap (heap_at w5 _ _ rfl) trivial
    have hlt65 : w5.heap.size < w6.heap.size := (Array.getElem?_eq_some_iff.1 hv6).1
    clear hw6 hx5
    go_wp2_with fail
    refine (errsV_any (some ⟨w6.heap.size, 0, none⟩) 2 2 [er, ky] _ (Sl.lit_ints _ (heap_at _ _ _ rfl) rfl trivial) (by omega)).mono ?_
    rintro e w' ⟨rfl, rfl⟩
    rw [HF.out]
    have hlt36 : w3.heap.size < w6.heap.size := (Array.getElem?_eq_some_iff.1 hx6).1
    have x0 := cell_at (i := 0) hx6 rfl
    have x1 := cell_at (i := 1) hx6 rfl
    have v0 := cell_at (i := 0) hv6 rfl
    have v1 := cell_at (i := 1) hv6 rfl
    clear hx6 hv6
    go_wp2_with fail
    refine (talked_any _).mono ?_
    rintro e w7 ⟨rfl, hw7⟩
    go_wp2_with fail
    go_ret
    exact ⟨rfl, Hend.out _ ((hq6.then_alloc _).trans hw7)⟩
end Go.Proofs.YtiecaedgphdfdaaDoor
