/- Sorting rows of a world under way: they stay right. -/
import Derived.Test.YtgobnlgmbplggaaGreatDoorU7
import Derived.Test.YtgobnlgmbplggaaGreatDoorS3
namespace Go.Proofs.YtgobnlgmbplggaaGreatDoor
open Go.RowKit

section
variable {B : Nat} {N : Nat → Nat}
theorem gdHom {w : World} {x : Hom} (h1 : HomSmall x) (h2 : HomT x) : GdL Θw B N w (Θw.fds 3) [.string x.place, .int .i64 x.frm, .int .i64 x.til] := ⟨⟨_, rfl, h2⟩, ⟨_, rfl, h1.2.1⟩, ⟨_, rfl, h1.2.2⟩, trivial⟩
theorem gdBnd {w : World} {x : Bnd} (h : BndT x) : GdL Θw B N w (Θw.fds 4) [.string x.a, .string x.b] := ⟨⟨_, rfl, h.1⟩, ⟨_, rfl, h.2⟩, trivial⟩
theorem gdWrk {w : World} {d : Int} {a : Option Addr} {n c : Nat} (h : -2000000000000 ≤ d ∧ d ≤ 2000000000000) (h2 : Gd Θw B N w (.sl 0) (.slice a n c)) : GdL Θw B N w (Θw.fds 6) [.int .i64 d, .slice a n c] := ⟨⟨_, rfl, h⟩, h2, trivial⟩
/-- A function of two right elements; it leaves what was there as it was. -/
def CmpK (B : Nat) (N : Nat → Nat) (k : Nat) (P : Value → Prop) (g : FuncId) (caps : Array Value) : Prop := ∀ (x y : List Value) (wx : World), GdL Θw B N wx (Θw.fds k) x → GdL Θw B N wx (Θw.fds k) y → Calls Tryz.prog g (#[.agg x.toArray, .agg y.toArray] ++ caps) wx fun e w' => (∃ v, e = .returned v ∧ P v) ∧ All wx w'
def IsInt (v : Value) : Prop := ∃ z, v = .int .i64 z
/-- Blocks below, and rows of strings. -/
def LowS (B : Nat) (w : World) (b : Nat) : Prop := b < B ∨ ∃ c fz, w.heap[b]? = some (.cells c 9 fz)
theorem LowS.ne {w : World} {b g k m : Nat} (h : LowS B w b) (hb : TB Θw B N w g k m) (hk : wTy k ≠ 9) : b ≠ g := by
  rintro rfl
  rcases h with h | ⟨c, fz, h⟩
  · have := hb.low; omega
  · obtain ⟨x, h1, -⟩ := hb.ok
    rw [h1] at h
    injection h with h
    injection h with _ h
    exact hk h
theorem lowB {w w' : World} (h : Kept (LowS B w) w w') : Kept (fun b => b < B) w w' := h.mono (fun _ hb => Or.inl hb)
/-- What works on a row leave. -/
def RowW (B : Nat) (N : Nat → Nat) (g : Nat) (w w' : World) : Prop := Goes Θw B N w N w' ∧ Kept (fun b => b ≠ g) w w'
theorem RowW.refl (B : Nat) (N : Nat → Nat) (g : Nat) (w : World) : RowW B N g w w := ⟨Goes.refl _ _ _ _, Kept.refl _ _⟩
theorem RowW.all {g : Nat} {w w' w'' : World} (h : RowW B N g w w') (k : All w' w'') : RowW B N g w w'' := ⟨h.1.trans (Goes.all k), h.2.trans k.all⟩
theorem RowW.put {g k m : Nat} {w w' : World} (h : RowW B N g w w') (hb : TB Θw B N w g k m) (i : Nat) {vs : List Value} (hv : GdL Θw B N w' (Θw.fds k) vs) (hk : k < 9 := by decide) : RowW B N g w (w'.setCells g (i * Θw.sz k) vs) := by
  refine ⟨h.1.trans ?_, h.2.trans (kept_setCellsF g (fun h => h rfl) _ _ _)⟩
  have := Goes.puts (wSep k hk) i vs (Θw.fds k) 0 w' (h.1.tb _ _ _ hb) rfl hv
  simpa using this
theorem RowW.put3 {g k m : Nat} {w w' : World} (h : RowW B N g w w') (hb : TB Θw B N w g k m) (hs : Θw.sz k = 3) (i : Nat) {v0 v1 v2 : Value} (hv : GdL Θw B N w' (Θw.fds k) [v0, v1, v2]) (hk : k < 9 := by decide) : RowW B N g w (((w'.setCell ⟨g, i * 3, none⟩ v0).setCell ⟨g, i * 3 + 1, none⟩ v1).setCell ⟨g, i * 3 + 2, none⟩ v2) := by
  have := h.put hb i hv hk
  rw [hs] at this
  exact this
theorem RowW.put2 {g k m : Nat} {w w' : World} (h : RowW B N g w w') (hb : TB Θw B N w g k m) (hs : Θw.sz k = 2) (i : Nat) {v0 v1 : Value} (hv : GdL Θw B N w' (Θw.fds k) [v0, v1]) (hk : k < 9 := by decide) : RowW B N g w ((w'.setCell ⟨g, i * 2, none⟩ v0).setCell ⟨g, i * 2 + 1, none⟩ v1) := by
  have := h.put hb i hv hk
  rw [hs] at this
  exact this
end

set_option maxRecDepth 100000 in
set_option maxHeartbeats 12800000 in
theorem insHom_any (B : Nat) (N : Nat → Nat) (g n cap : Nat) (gf : FuncId) (cb : Array Value) (w : World) (hb : TB Θw B N w g 3 cap) (hn : n ≤ cap) (hn2 : n ≤ 1000) (eg : ∀ args w, (callFunc gf args).run Tryz.prog w = .ok (.enter gf args) w) (hcmp : CmpK B N 3 IsInt gf cb) :
    Calls Tryz.prog 270 #[.slice (some ⟨g, 0, none⟩) n cap, .int .i64 0, .int .i64 n, .func (.func gf) #[] cb] w fun e w' => e = .returned (.tuple #[]) ∧ RowW B N g w w' := by
  have HB := Lib.hid hb
  have HC := Lib.hid hcmp
  clear hb hcmp
  go_enter Tryz.func270, Tryz.ntmps270
  go_wp2_with fail
  go_loopw [8] (fun i wr => ∃ i0 : Nat, 1 ≤ i0 ∧ i0 ≤ n + 1 ∧ i = .int .i64 i0 ∧ RowW B N g w wr) (fun i _ => n - (intOf i).toNat)
  case atStart => exact ⟨1, by omega, by omega, rfl, RowW.refl _ _ _ _⟩
  case round =>
    obtain ⟨i0, h1, h2, rfl, hrw⟩ := hrel
    obtain ⟨wo, rfl⟩ : ∃ z : World, z = wr := ⟨_, rfl⟩
    by_cases hlt : i0 < n
    · have HRW := Lib.hid hrw
      clear hrw
      go_wp2_with fail
      go_loopw [9] (fun j wr => ∃ j0 : Nat, j0 ≤ i0 ∧ j = .int .i64 j0 ∧ RowW B N g w wr) (fun j _ => (intOf j).toNat)
      case atStart => exact ⟨i0, Nat.le_refl _, rfl, HRW.out⟩
      case round =>
        obtain ⟨j0, hj, rfl, hrw⟩ := hrel
        obtain ⟨wi, rfl⟩ : ∃ z : World, z = wr := ⟨_, rfl⟩
        have HRI := Lib.hid hrw
        clear hrw
        rcases j0 with _ | j
        · go_upto_region 4 with fail
          go_quiet (fail)
          go_wp2_with fail
          go_roundw
          case rel => exact ⟨i0 + 1, by omega, by omega, by go_num, HRI.out.all (by repeat (first | exact Kept.refl _ _ | exact ka | refine Kept.then_drew ?_ | refine Kept.then_drewN ?_ _ | refine Kept.then_alloc ?_ _))⟩
          case measure => simp [intOf]; omega
        · have HT := Lib.hid (HRI.out.1.tb _ _ _ HB.out)
          obtain ⟨x, d0, d1, d2, hx, hxt⟩ := HT.out.hom (i := j + 1) (by omega)
          obtain ⟨y, e0, e1, e2, hy, hyt⟩ := HT.out.hom (i := j) (by omega)
          have HGX := Lib.hid (show GdL Θw B N wi (Θw.fds 3) [.string x.place, .int .i64 x.frm, .int .i64 x.til] from gdHom hx hxt)
          have HGY := Lib.hid (show GdL Θw B N wi (Θw.fds 3) [.string y.place, .int .i64 y.frm, .int .i64 y.til] from gdHom hy hyt)
          have HCMP := Lib.hid (fun (wx : World) (kx : All wi wx) => HC.out [.string x.place, .int .i64 x.frm, .int .i64 x.til] [.string y.place, .int .i64 y.frm, .int .i64 y.til] wx (HGX.out.goes (Goes.all kx)) (HGY.out.goes (Goes.all kx)))
          have f1 : (0 : Int) ≤ (j : Int) := by omega
          have f2 : (j : Int) < (n : Int) := by omega
          have f3 : j < n := by omega
          have f6 : (0 : Int) ≤ (j : Int) + 1 := by omega
          have f7 : (j : Int) + 1 < (n : Int) := by omega
          have f4 : IntKind.i64.wrap (j : Int) = (j : Int) := IntWalk.i64_in _ (by omega)
          have ka : All wi wi := Kept.refl _ _
          have f5 := lt_of_cell d0
          clear hx hxt hy hyt
          go_upto_region 4 with fail
          go_region_held3 (fun w' => All wi w' ∧ w'.cell? ⟨g, (j + 1) * 3, none⟩ = some (.string x.place) ∧ w'.cell? ⟨g, (j + 1) * 3 + 1, none⟩ = some (.int .i64 x.frm) ∧ w'.cell? ⟨g, (j + 1) * 3 + 2, none⟩ = some (.int .i64 x.til) ∧ w'.cell? ⟨g, j * 3, none⟩ = some (.string y.place) ∧ w'.cell? ⟨g, j * 3 + 1, none⟩ = some (.int .i64 y.frm) ∧ w'.cell? ⟨g, j * 3 + 2, none⟩ = some (.int .i64 y.til)) (first | exact ⟨ka, d0, d1, d2, e0, e1, e2⟩ | exact ⟨ka, m0, m1, m2, m3, m4, m5⟩ | (refine ⟨(by repeat (first | exact Kept.refl _ _ | exact ka | refine Kept.then_drew ?_ | refine Kept.then_drewN ?_ _ | refine Kept.then_alloc ?_ _)), ?_⟩; first | exact ⟨d0, d1, d2, e0, e1, e2⟩ | exact ⟨m0, m1, m2, m3, m4, m5⟩ | go_keep) | go_keep) (first | (refine (HCMP.out _ (by repeat (first | exact Kept.refl _ _ | exact ka | refine Kept.then_drew ?_ | refine Kept.then_drewN ?_ _ | refine Kept.then_alloc ?_ _))).mono ?_; rintro e wa ⟨⟨v, rfl, z, rfl⟩, hwa⟩; have m0 := hwa.cell d0 trivial; have m1 := hwa.cell d1 trivial; have m2 := hwa.cell d2 trivial; have m3 := hwa.cell e0 trivial; have m4 := hwa.cell e1 trivial; have m5 := hwa.cell e2 trivial; have ka := Kept.trans (show All wi _ from (by repeat (first | exact Kept.refl _ _ | exact ka | refine Kept.then_drew ?_ | refine Kept.then_drewN ?_ _ | refine Kept.then_alloc ?_ _))) hwa))
          have HRK := Lib.hid (show RowW B N g w _ from HRI.out.all ka)
          have HKA := Lib.hid ka
          by_cases hz : z < 0
          · have hzd : decide (z < (0 : Int)) = true := by simpa using hz
            go_upto_region 6 with fail
            have HTA := HRK.out.1.tb _ _ _ HB.out
            have z0 := HTA.fz ((j + 1) * 3)
            have z1 := HTA.fz ((j + 1) * 3 + 1)
            have z2 := HTA.fz ((j + 1) * 3 + 2)
            have z3 := HTA.fz (j * 3)
            have z4 := HTA.fz (j * 3 + 1)
            have z5 := HTA.fz (j * 3 + 2)
            clear HTA ka
            have HF1 := Lib.hid (HRK.out.put3 HB.out rfl (j + 1) (HGY.out.goes (Goes.all HKA.out)))
            have HFI := Lib.hid (show RowW B N g w ((((((wa.setCell ⟨g, (j + 1) * 3, none⟩ (.string y.place)).setCell ⟨g, (j + 1) * 3 + 1, none⟩ (.int .i64 y.frm)).setCell ⟨g, (j + 1) * 3 + 2, none⟩ (.int .i64 y.til)).setCell ⟨g, j * 3, none⟩ (.string x.place)).setCell ⟨g, j * 3 + 1, none⟩ (.int .i64 x.frm)).setCell ⟨g, j * 3 + 2, none⟩ (.int .i64 x.til)) from HF1.out.put3 HB.out rfl j ((HGX.out.goes (Goes.all HKA.out)).goes (RowW.put3 (RowW.refl B N g wa) (HRK.out.1.tb _ _ _ HB.out) rfl (j + 1) (HGY.out.goes (Goes.all HKA.out))).1))
            clear HF1
            go_region
            go_wp2_with fail
            go_roundw
            case rel => exact ⟨j, by omega, by go_num, HFI.out.all (Kept.drew _ _)⟩
            case measure => simp [intOf]
          · have hzd : decide (z < (0 : Int)) = false := by simpa using hz
            go_wp2_with fail
            go_roundw
            case rel => exact ⟨i0 + 1, by omega, by omega, by go_num, HRK.out⟩
            case measure => simp [intOf]; omega
    · have hd : decide ((i0 : Int) < (n : Int)) = false := by simp; omega
      go_wp2_with fail
      go_end0
      exact ⟨rfl, hrw⟩
set_option maxHeartbeats 3200000 in
/-- slices.SortFunc of few. -/
theorem sortHom_any (B : Nat) (N : Nat → Nat) (a : Option Addr) (n cap : Nat) (gf : FuncId) (w : World) (hg : Gd Θw B N w (.sl 3) (.slice a n cap)) (hn : n ≤ 12) (eg : ∀ args w, (callFunc gf args).run Tryz.prog w = .ok (.enter gf args) w) (hcmp : CmpK B N 3 IsInt gf #[]) :
    Calls Tryz.prog 170 #[.slice a n cap, .func (.func gf) #[] #[]] w fun e w' => e = .returned (.tuple #[]) ∧ Goes Θw B N w N w' ∧ Kept (LowS B w) w w' := by
  have HINS : Hid (∀ wx, wx = w → Calls Tryz.prog 270 #[.slice a n cap, .int .i64 0, .int .i64 n, .func (.func gf) #[] #[]] wx fun e w' => e = .returned (.tuple #[]) ∧ Goes Θw B N w N w' ∧ Kept (LowS B w) w w') := Lib.hid (by
    rintro wx rfl
    obtain ⟨a', n', cap', e, hnN, hnc, h2⟩ := hg.slice
    cases e
    rcases Nat.eq_zero_or_pos n with rfl | h0
    · clear hcmp eg hg h2
      go_enter Tryz.func270, Tryz.ntmps270
      go_wp2_with fail
      go_loopw [8] (fun i wr => i = .int .i64 1 ∧ wr = wx) (fun i _ => 0)
      case atStart => exact ⟨rfl, rfl⟩
      case round =>
        obtain ⟨rfl, rfl⟩ := hrel
        go_wp2_with fail
        go_end0
        exact ⟨rfl, Goes.refl _ _ _ _, Kept.refl _ _⟩
    · obtain ⟨g, rfl, hb⟩ := h2 h0
      refine (insHom_any B N g n cap gf #[] wx hb hnc (by omega) eg hcmp).mono ?_
      rintro e w' ⟨rfl, hr⟩
      exact ⟨rfl, hr.1, hr.2.mono (fun b hb2 => hb2.ne hb (by decide))⟩)
  clear hg hcmp
  have HPD : Hid (∀ (l : Int) wx, wx = w → Calls Tryz.prog 226 #[.slice a n cap, .int .i64 0, .int .i64 n, .int .i64 l, .func (.func gf) #[] #[]] wx fun e w' => e = .returned (.tuple #[]) ∧ Goes Θw B N w N w' ∧ Kept (LowS B w) w w') := Lib.hid (by
    rintro l wx rfl
    have hd : decide ((n : Int) ≤ 12) = true := by simp; omega
    have hs : IntKind.i64.wrap (n : Int) = (n : Int) := IntWalk.i64_in _ (by omega)
    go_enter Tryz.func226, Tryz.ntmps226
    go_wp2_with fail
    go_loopw [1, 2] (fun u v wr => u = .int .i64 0 ∧ v = .int .i64 n ∧ wr = wx) (fun _ _ _ => 0)
    case atStart => exact ⟨rfl, rfl, rfl⟩
    case round =>
      obtain ⟨rfl, rfl, rfl⟩ := hrel
      go_wp2_with fail
      refine (HINS.out _ rfl).mono ?_
      rintro e w' ⟨rfl, hr⟩
      go_wp2_with fail
      exact bodyPost_ret (results_none rfl _ _ _) rfl ⟨rfl, hr⟩)
  have h1 : IntKind.u64.wrap (n : Int) = (n : Int) := by unfold IntKind.wrap; simp [IntKind.bits, IntKind.signed]; omega
  go_enter Tryz.func170, Tryz.ntmps170
  go_wp2_with fail
  refine (Tryz.bits_Len (n : Int) _ (by omega) (by omega)).mono ?_
  rintro e w' ⟨rfl, rfl⟩
  go_wp2_with fail
  refine (HPD.out _ _ rfl).mono ?_
  rintro e w' ⟨rfl, hr⟩
  go_wp2_with fail
  go_end0
  exact ⟨rfl, hr⟩

set_option maxRecDepth 100000 in
set_option maxHeartbeats 12800000 in
theorem insBnd_any (B : Nat) (N : Nat → Nat) (g n cap : Nat) (gf : FuncId) (cb : Array Value) (w : World) (hb : TB Θw B N w g 4 cap) (hn : n ≤ cap) (hn2 : n ≤ 1000) (eg : ∀ args w, (callFunc gf args).run Tryz.prog w = .ok (.enter gf args) w) (hcmp : CmpK B N 4 IsInt gf cb) :
    Calls Tryz.prog 206 #[.slice (some ⟨g, 0, none⟩) n cap, .int .i64 0, .int .i64 n, .func (.func gf) #[] cb] w fun e w' => e = .returned (.tuple #[]) ∧ RowW B N g w w' := by
  have HB := Lib.hid hb
  have HC := Lib.hid hcmp
  clear hb hcmp
  go_enter Tryz.func206, Tryz.ntmps206
  go_wp2_with fail
  go_loopw [8] (fun i wr => ∃ i0 : Nat, 1 ≤ i0 ∧ i0 ≤ n + 1 ∧ i = .int .i64 i0 ∧ RowW B N g w wr) (fun i _ => n - (intOf i).toNat)
  case atStart => exact ⟨1, by omega, by omega, rfl, RowW.refl _ _ _ _⟩
  case round =>
    obtain ⟨i0, h1, h2, rfl, hrw⟩ := hrel
    obtain ⟨wo, rfl⟩ : ∃ z : World, z = wr := ⟨_, rfl⟩
    by_cases hlt : i0 < n
    · have HRW := Lib.hid hrw
      clear hrw
      go_wp2_with fail
      go_loopw [9] (fun j wr => ∃ j0 : Nat, j0 ≤ i0 ∧ j = .int .i64 j0 ∧ RowW B N g w wr) (fun j _ => (intOf j).toNat)
      case atStart => exact ⟨i0, Nat.le_refl _, rfl, HRW.out⟩
      case round =>
        obtain ⟨j0, hj, rfl, hrw⟩ := hrel
        obtain ⟨wi, rfl⟩ : ∃ z : World, z = wr := ⟨_, rfl⟩
        have HRI := Lib.hid hrw
        clear hrw
        rcases j0 with _ | j
        · go_upto_region 4 with fail
          go_quiet (fail)
          go_wp2_with fail
          go_roundw
          case rel => exact ⟨i0 + 1, by omega, by omega, by go_num, HRI.out.all (by repeat (first | exact Kept.refl _ _ | exact ka | refine Kept.then_drew ?_ | refine Kept.then_drewN ?_ _ | refine Kept.then_alloc ?_ _))⟩
          case measure => simp [intOf]; omega
        · have HT := Lib.hid (HRI.out.1.tb _ _ _ HB.out)
          obtain ⟨x, d0, d1, hx⟩ := HT.out.bnd (i := j + 1) (by omega)
          obtain ⟨y, e0, e1, hy⟩ := HT.out.bnd (i := j) (by omega)
          have HGX := Lib.hid (show GdL Θw B N wi (Θw.fds 4) [.string x.a, .string x.b] from gdBnd hx)
          have HGY := Lib.hid (show GdL Θw B N wi (Θw.fds 4) [.string y.a, .string y.b] from gdBnd hy)
          have HCMP := Lib.hid (fun (wx : World) (kx : All wi wx) => HC.out [.string x.a, .string x.b] [.string y.a, .string y.b] wx (HGX.out.goes (Goes.all kx)) (HGY.out.goes (Goes.all kx)))
          have f1 : (0 : Int) ≤ (j : Int) := by omega
          have f2 : (j : Int) < (n : Int) := by omega
          have f3 : j < n := by omega
          have f6 : (0 : Int) ≤ (j : Int) + 1 := by omega
          have f7 : (j : Int) + 1 < (n : Int) := by omega
          have f4 : IntKind.i64.wrap (j : Int) = (j : Int) := IntWalk.i64_in _ (by omega)
          have ka : All wi wi := Kept.refl _ _
          have f5 := lt_of_cell d0
          clear hx hy
          go_upto_region 4 with fail
          go_region_held3 (fun w' => All wi w' ∧ w'.cell? ⟨g, (j + 1) * 2, none⟩ = some (.string x.a) ∧ w'.cell? ⟨g, (j + 1) * 2 + 1, none⟩ = some (.string x.b) ∧ w'.cell? ⟨g, j * 2, none⟩ = some (.string y.a) ∧ w'.cell? ⟨g, j * 2 + 1, none⟩ = some (.string y.b)) (first | exact ⟨ka, d0, d1, e0, e1⟩ | exact ⟨ka, m0, m1, m2, m3⟩ | (refine ⟨(by repeat (first | exact Kept.refl _ _ | exact ka | refine Kept.then_drew ?_ | refine Kept.then_drewN ?_ _ | refine Kept.then_alloc ?_ _)), ?_⟩; first | exact ⟨d0, d1, e0, e1⟩ | exact ⟨m0, m1, m2, m3⟩ | go_keep) | go_keep) (first | (refine (HCMP.out _ (by repeat (first | exact Kept.refl _ _ | exact ka | refine Kept.then_drew ?_ | refine Kept.then_drewN ?_ _ | refine Kept.then_alloc ?_ _))).mono ?_; rintro e wa ⟨⟨v, rfl, z, rfl⟩, hwa⟩; have m0 := hwa.cell d0 trivial; have m1 := hwa.cell d1 trivial; have m2 := hwa.cell e0 trivial; have m3 := hwa.cell e1 trivial; have ka := Kept.trans (show All wi _ from (by repeat (first | exact Kept.refl _ _ | exact ka | refine Kept.then_drew ?_ | refine Kept.then_drewN ?_ _ | refine Kept.then_alloc ?_ _))) hwa))
          have HRK := Lib.hid (show RowW B N g w _ from HRI.out.all ka)
          have HKA := Lib.hid ka
          by_cases hz : z < 0
          · have hzd : decide (z < (0 : Int)) = true := by simpa using hz
            go_upto_region 6 with fail
            have HTA := HRK.out.1.tb _ _ _ HB.out
            have z0 := HTA.fz ((j + 1) * 2)
            have z1 := HTA.fz ((j + 1) * 2 + 1)
            have z2 := HTA.fz (j * 2)
            have z3 := HTA.fz (j * 2 + 1)
            clear HTA ka
            have HF1 := Lib.hid (HRK.out.put2 HB.out rfl (j + 1) (HGY.out.goes (Goes.all HKA.out)))
            have HFI := Lib.hid (show RowW B N g w ((((wa.setCell ⟨g, (j + 1) * 2, none⟩ (.string y.a)).setCell ⟨g, (j + 1) * 2 + 1, none⟩ (.string y.b)).setCell ⟨g, j * 2, none⟩ (.string x.a)).setCell ⟨g, j * 2 + 1, none⟩ (.string x.b)) from HF1.out.put2 HB.out rfl j ((HGX.out.goes (Goes.all HKA.out)).goes (RowW.put2 (RowW.refl B N g wa) (HRK.out.1.tb _ _ _ HB.out) rfl (j + 1) (HGY.out.goes (Goes.all HKA.out))).1))
            clear HF1
            go_region
            go_wp2_with fail
            go_roundw
            case rel => exact ⟨j, by omega, by go_num, HFI.out.all (Kept.drew _ _)⟩
            case measure => simp [intOf]
          · have hzd : decide (z < (0 : Int)) = false := by simpa using hz
            go_wp2_with fail
            go_roundw
            case rel => exact ⟨i0 + 1, by omega, by omega, by go_num, HRK.out⟩
            case measure => simp [intOf]; omega
    · have hd : decide ((i0 : Int) < (n : Int)) = false := by simp; omega
      go_wp2_with fail
      go_end0
      exact ⟨rfl, hrw⟩
set_option maxHeartbeats 3200000 in
/-- slices.SortFunc of few. -/
theorem sortBnd_any (B : Nat) (N : Nat → Nat) (a : Option Addr) (n cap : Nat) (gf : FuncId) (w : World) (hg : Gd Θw B N w (.sl 4) (.slice a n cap)) (hn : n ≤ 12) (eg : ∀ args w, (callFunc gf args).run Tryz.prog w = .ok (.enter gf args) w) (hcmp : CmpK B N 4 IsInt gf #[]) :
    Calls Tryz.prog 88 #[.slice a n cap, .func (.func gf) #[] #[]] w fun e w' => e = .returned (.tuple #[]) ∧ Goes Θw B N w N w' ∧ Kept (LowS B w) w w' := by
  have HINS : Hid (∀ wx, wx = w → Calls Tryz.prog 206 #[.slice a n cap, .int .i64 0, .int .i64 n, .func (.func gf) #[] #[]] wx fun e w' => e = .returned (.tuple #[]) ∧ Goes Θw B N w N w' ∧ Kept (LowS B w) w w') := Lib.hid (by
    rintro wx rfl
    obtain ⟨a', n', cap', e, hnN, hnc, h2⟩ := hg.slice
    cases e
    rcases Nat.eq_zero_or_pos n with rfl | h0
    · clear hcmp eg hg h2
      go_enter Tryz.func206, Tryz.ntmps206
      go_wp2_with fail
      go_loopw [8] (fun i wr => i = .int .i64 1 ∧ wr = wx) (fun i _ => 0)
      case atStart => exact ⟨rfl, rfl⟩
      case round =>
        obtain ⟨rfl, rfl⟩ := hrel
        go_wp2_with fail
        go_end0
        exact ⟨rfl, Goes.refl _ _ _ _, Kept.refl _ _⟩
    · obtain ⟨g, rfl, hb⟩ := h2 h0
      refine (insBnd_any B N g n cap gf #[] wx hb hnc (by omega) eg hcmp).mono ?_
      rintro e w' ⟨rfl, hr⟩
      exact ⟨rfl, hr.1, hr.2.mono (fun b hb2 => hb2.ne hb (by decide))⟩)
  clear hg hcmp
  have HPD : Hid (∀ (l : Int) wx, wx = w → Calls Tryz.prog 156 #[.slice a n cap, .int .i64 0, .int .i64 n, .int .i64 l, .func (.func gf) #[] #[]] wx fun e w' => e = .returned (.tuple #[]) ∧ Goes Θw B N w N w' ∧ Kept (LowS B w) w w') := Lib.hid (by
    rintro l wx rfl
    have hd : decide ((n : Int) ≤ 12) = true := by simp; omega
    have hs : IntKind.i64.wrap (n : Int) = (n : Int) := IntWalk.i64_in _ (by omega)
    go_enter Tryz.func156, Tryz.ntmps156
    go_wp2_with fail
    go_loopw [1, 2] (fun u v wr => u = .int .i64 0 ∧ v = .int .i64 n ∧ wr = wx) (fun _ _ _ => 0)
    case atStart => exact ⟨rfl, rfl, rfl⟩
    case round =>
      obtain ⟨rfl, rfl, rfl⟩ := hrel
      go_wp2_with fail
      refine (HINS.out _ rfl).mono ?_
      rintro e w' ⟨rfl, hr⟩
      go_wp2_with fail
      exact bodyPost_ret (results_none rfl _ _ _) rfl ⟨rfl, hr⟩)
  have h1 : IntKind.u64.wrap (n : Int) = (n : Int) := by unfold IntKind.wrap; simp [IntKind.bits, IntKind.signed]; omega
  go_enter Tryz.func88, Tryz.ntmps88
  go_wp2_with fail
  refine (Tryz.bits_Len (n : Int) _ (by omega) (by omega)).mono ?_
  rintro e w' ⟨rfl, rfl⟩
  go_wp2_with fail
  refine (HPD.out _ _ rfl).mono ?_
  rintro e w' ⟨rfl, hr⟩
  go_wp2_with fail
  go_end0
  exact ⟨rfl, hr⟩

set_option maxRecDepth 100000 in
set_option maxHeartbeats 12800000 in
theorem insWrk_any (B : Nat) (N : Nat → Nat) (g n cap : Nat) (gf : FuncId) (cb : Array Value) (w : World) (hb : TB Θw B N w g 6 cap) (hn : n ≤ cap) (hn2 : n ≤ 1000) (eg : ∀ args w, (callFunc gf args).run Tryz.prog w = .ok (.enter gf args) w) (hcmp : CmpK B N 6 IsInt gf cb) :
    Calls Tryz.prog 227 #[.slice (some ⟨g, 0, none⟩) n cap, .int .i64 0, .int .i64 n, .func (.func gf) #[] cb] w fun e w' => e = .returned (.tuple #[]) ∧ RowW B N g w w' := by
  have HB := Lib.hid hb
  have HC := Lib.hid hcmp
  clear hb hcmp
  go_enter Tryz.func227, Tryz.ntmps227
  go_wp2_with fail
  go_loopw [8] (fun i wr => ∃ i0 : Nat, 1 ≤ i0 ∧ i0 ≤ n + 1 ∧ i = .int .i64 i0 ∧ RowW B N g w wr) (fun i _ => n - (intOf i).toNat)
  case atStart => exact ⟨1, by omega, by omega, rfl, RowW.refl _ _ _ _⟩
  case round =>
    obtain ⟨i0, h1, h2, rfl, hrw⟩ := hrel
    obtain ⟨wo, rfl⟩ : ∃ z : World, z = wr := ⟨_, rfl⟩
    by_cases hlt : i0 < n
    · have HRW := Lib.hid hrw
      clear hrw
      go_wp2_with fail
      go_loopw [9] (fun j wr => ∃ j0 : Nat, j0 ≤ i0 ∧ j = .int .i64 j0 ∧ RowW B N g w wr) (fun j _ => (intOf j).toNat)
      case atStart => exact ⟨i0, Nat.le_refl _, rfl, HRW.out⟩
      case round =>
        obtain ⟨j0, hj, rfl, hrw⟩ := hrel
        obtain ⟨wi, rfl⟩ : ∃ z : World, z = wr := ⟨_, rfl⟩
        have HRI := Lib.hid hrw
        clear hrw
        rcases j0 with _ | j
        · go_upto_region 4 with fail
          go_quiet (fail)
          go_wp2_with fail
          go_roundw
          case rel => exact ⟨i0 + 1, by omega, by omega, by go_num, HRI.out.all (by repeat (first | exact Kept.refl _ _ | exact ka | refine Kept.then_drew ?_ | refine Kept.then_drewN ?_ _ | refine Kept.then_alloc ?_ _))⟩
          case measure => simp [intOf]; omega
        · have HT := Lib.hid (HRI.out.1.tb _ _ _ HB.out)
          obtain ⟨xd, xa, xn, xc, d0, d1, hxd, hxs⟩ := HT.out.wrk (i := j + 1) (by omega)
          obtain ⟨yd, ya, yn, yc, e0, e1, hyd, hys⟩ := HT.out.wrk (i := j) (by omega)
          have HGX := Lib.hid (show GdL Θw B N wi (Θw.fds 6) [.int .i64 xd, .slice xa xn xc] from gdWrk hxd hxs)
          have HGY := Lib.hid (show GdL Θw B N wi (Θw.fds 6) [.int .i64 yd, .slice ya yn yc] from gdWrk hyd hys)
          have HCMP := Lib.hid (fun (wx : World) (kx : All wi wx) => HC.out [.int .i64 xd, .slice xa xn xc] [.int .i64 yd, .slice ya yn yc] wx (HGX.out.goes (Goes.all kx)) (HGY.out.goes (Goes.all kx)))
          have f1 : (0 : Int) ≤ (j : Int) := by omega
          have f2 : (j : Int) < (n : Int) := by omega
          have f3 : j < n := by omega
          have f6 : (0 : Int) ≤ (j : Int) + 1 := by omega
          have f7 : (j : Int) + 1 < (n : Int) := by omega
          have f4 : IntKind.i64.wrap (j : Int) = (j : Int) := IntWalk.i64_in _ (by omega)
          have ka : All wi wi := Kept.refl _ _
          have f5 := lt_of_cell d0
          clear hxd hxs hyd hys
          go_upto_region 4 with fail
          go_region_held3 (fun w' => All wi w' ∧ w'.cell? ⟨g, (j + 1) * 2, none⟩ = some (.int .i64 xd) ∧ w'.cell? ⟨g, (j + 1) * 2 + 1, none⟩ = some (.slice xa xn xc) ∧ w'.cell? ⟨g, j * 2, none⟩ = some (.int .i64 yd) ∧ w'.cell? ⟨g, j * 2 + 1, none⟩ = some (.slice ya yn yc)) (first | exact ⟨ka, d0, d1, e0, e1⟩ | exact ⟨ka, m0, m1, m2, m3⟩ | (refine ⟨(by repeat (first | exact Kept.refl _ _ | exact ka | refine Kept.then_drew ?_ | refine Kept.then_drewN ?_ _ | refine Kept.then_alloc ?_ _)), ?_⟩; first | exact ⟨d0, d1, e0, e1⟩ | exact ⟨m0, m1, m2, m3⟩ | go_keep) | go_keep) (first | (refine (HCMP.out _ (by repeat (first | exact Kept.refl _ _ | exact ka | refine Kept.then_drew ?_ | refine Kept.then_drewN ?_ _ | refine Kept.then_alloc ?_ _))).mono ?_; rintro e wa ⟨⟨v, rfl, z, rfl⟩, hwa⟩; have m0 := hwa.cell d0 trivial; have m1 := hwa.cell d1 trivial; have m2 := hwa.cell e0 trivial; have m3 := hwa.cell e1 trivial; have ka := Kept.trans (show All wi _ from (by repeat (first | exact Kept.refl _ _ | exact ka | refine Kept.then_drew ?_ | refine Kept.then_drewN ?_ _ | refine Kept.then_alloc ?_ _))) hwa))
          have HRK := Lib.hid (show RowW B N g w _ from HRI.out.all ka)
          have HKA := Lib.hid ka
          by_cases hz : z < 0
          · have hzd : decide (z < (0 : Int)) = true := by simpa using hz
            go_upto_region 6 with fail
            have HTA := HRK.out.1.tb _ _ _ HB.out
            have z0 := HTA.fz ((j + 1) * 2)
            have z1 := HTA.fz ((j + 1) * 2 + 1)
            have z2 := HTA.fz (j * 2)
            have z3 := HTA.fz (j * 2 + 1)
            clear HTA ka
            have HF1 := Lib.hid (HRK.out.put2 HB.out rfl (j + 1) (HGY.out.goes (Goes.all HKA.out)))
            have HFI := Lib.hid (show RowW B N g w ((((wa.setCell ⟨g, (j + 1) * 2, none⟩ (.int .i64 yd)).setCell ⟨g, (j + 1) * 2 + 1, none⟩ (.slice ya yn yc)).setCell ⟨g, j * 2, none⟩ (.int .i64 xd)).setCell ⟨g, j * 2 + 1, none⟩ (.slice xa xn xc)) from HF1.out.put2 HB.out rfl j ((HGX.out.goes (Goes.all HKA.out)).goes (RowW.put2 (RowW.refl B N g wa) (HRK.out.1.tb _ _ _ HB.out) rfl (j + 1) (HGY.out.goes (Goes.all HKA.out))).1))
            clear HF1
            go_region
            go_wp2_with fail
            go_roundw
            case rel => exact ⟨j, by omega, by go_num, HFI.out.all (Kept.drew _ _)⟩
            case measure => simp [intOf]
          · have hzd : decide (z < (0 : Int)) = false := by simpa using hz
            go_wp2_with fail
            go_roundw
            case rel => exact ⟨i0 + 1, by omega, by omega, by go_num, HRK.out⟩
            case measure => simp [intOf]; omega
    · have hd : decide ((i0 : Int) < (n : Int)) = false := by simp; omega
      go_wp2_with fail
      go_end0
      exact ⟨rfl, hrw⟩
set_option maxHeartbeats 3200000 in
/-- slices.SortFunc of few. -/
theorem sortWrk_any (B : Nat) (N : Nat → Nat) (a : Option Addr) (n cap : Nat) (gf : FuncId) (w : World) (hg : Gd Θw B N w (.sl 6) (.slice a n cap)) (hn : n ≤ 12) (eg : ∀ args w, (callFunc gf args).run Tryz.prog w = .ok (.enter gf args) w) (hcmp : CmpK B N 6 IsInt gf #[]) :
    Calls Tryz.prog 120 #[.slice a n cap, .func (.func gf) #[] #[]] w fun e w' => e = .returned (.tuple #[]) ∧ Goes Θw B N w N w' ∧ Kept (LowS B w) w w' := by
  have HINS : Hid (∀ wx, wx = w → Calls Tryz.prog 227 #[.slice a n cap, .int .i64 0, .int .i64 n, .func (.func gf) #[] #[]] wx fun e w' => e = .returned (.tuple #[]) ∧ Goes Θw B N w N w' ∧ Kept (LowS B w) w w') := Lib.hid (by
    rintro wx rfl
    obtain ⟨a', n', cap', e, hnN, hnc, h2⟩ := hg.slice
    cases e
    rcases Nat.eq_zero_or_pos n with rfl | h0
    · clear hcmp eg hg h2
      go_enter Tryz.func227, Tryz.ntmps227
      go_wp2_with fail
      go_loopw [8] (fun i wr => i = .int .i64 1 ∧ wr = wx) (fun i _ => 0)
      case atStart => exact ⟨rfl, rfl⟩
      case round =>
        obtain ⟨rfl, rfl⟩ := hrel
        go_wp2_with fail
        go_end0
        exact ⟨rfl, Goes.refl _ _ _ _, Kept.refl _ _⟩
    · obtain ⟨g, rfl, hb⟩ := h2 h0
      refine (insWrk_any B N g n cap gf #[] wx hb hnc (by omega) eg hcmp).mono ?_
      rintro e w' ⟨rfl, hr⟩
      exact ⟨rfl, hr.1, hr.2.mono (fun b hb2 => hb2.ne hb (by decide))⟩)
  clear hg hcmp
  have HPD : Hid (∀ (l : Int) wx, wx = w → Calls Tryz.prog 172 #[.slice a n cap, .int .i64 0, .int .i64 n, .int .i64 l, .func (.func gf) #[] #[]] wx fun e w' => e = .returned (.tuple #[]) ∧ Goes Θw B N w N w' ∧ Kept (LowS B w) w w') := Lib.hid (by
    rintro l wx rfl
    have hd : decide ((n : Int) ≤ 12) = true := by simp; omega
    have hs : IntKind.i64.wrap (n : Int) = (n : Int) := IntWalk.i64_in _ (by omega)
    go_enter Tryz.func172, Tryz.ntmps172
    go_wp2_with fail
    go_loopw [1, 2] (fun u v wr => u = .int .i64 0 ∧ v = .int .i64 n ∧ wr = wx) (fun _ _ _ => 0)
    case atStart => exact ⟨rfl, rfl, rfl⟩
    case round =>
      obtain ⟨rfl, rfl, rfl⟩ := hrel
      go_wp2_with fail
      refine (HINS.out _ rfl).mono ?_
      rintro e w' ⟨rfl, hr⟩
      go_wp2_with fail
      exact bodyPost_ret (results_none rfl _ _ _) rfl ⟨rfl, hr⟩)
  have h1 : IntKind.u64.wrap (n : Int) = (n : Int) := by unfold IntKind.wrap; simp [IntKind.bits, IntKind.signed]; omega
  go_enter Tryz.func120, Tryz.ntmps120
  go_wp2_with fail
  refine (Tryz.bits_Len (n : Int) _ (by omega) (by omega)).mono ?_
  rintro e w' ⟨rfl, rfl⟩
  go_wp2_with fail
  refine (HPD.out _ _ rfl).mono ?_
  rintro e w' ⟨rfl, hr⟩
  go_wp2_with fail
  go_end0
  exact ⟨rfl, hr⟩

end Go.Proofs.YtgobnlgmbplggaaGreatDoor
