/- World, Terms, DayOf, PersonKey. -/
import Derived.Test.YtgobnlgmbplggaaGreatDoorD6
import Derived.Test.YtgobnlgmbplggaaGreatDoorD4
import Derived.Test.YtgobnlgmbplggaaGreatDoorD5
import Derived.Test.YtgobnlgmbplggaaGreatDoorSo
import Derived.Test.YtgobnlgmbplggaaGreatDoorP7
import Derived.Test.YtgobnlgmbplggaaGreatDoorWj
import Derived.Test.YtgobnlgmbplggaaGreatDoorP0
import Derived.Lib.Atoi
import Derived.Lib.ItoaNum
import Derived.Lib.ItoaLen
import Derived.Lib.IndexMore
import Derived.Lib.SplitLaws
namespace Go.Proofs.YtgobnlgmbplggaaGreatDoor
open Go.RowKit

set_option maxHeartbeats 6400000 in
theorem worldGen_any (σ : St) (n B : Nat) (N : Nat → Nat) (pp : Nat) (w0 : World) (hs : Str σ w0 n) (hn : n ≤ 4611686017000000000) (h7 : 7 < σ.b) (hσ : σ.b < B) (hB : B ≤ w0.heap.size) (hg : Glob w0) (hp : pp ≤ 1000000) (hN : ∀ x, N x = 8) :
    Calls Tryz.prog 10 #[.pointer (some ⟨σ.b, 0, none⟩), .int .i64 pp] w0 fun e w' => ∃ v m N', e = .returned v ∧ WldG B N' w' v ∧ GenX σ B N N' n 40000000 w0 w' m ∧ ∀ x, 8 ≤ N' x ∧ N' x ≤ 101 := by
  have hk1 : All w0 (w0.alloc (.cells #[.slice none 0 0, .slice none 0 0, .slice none 0 0, .slice none 0 0] 31)) := Kept.alloc _ _ _
  have ha1 : TB Θw B N (w0.alloc (.cells #[.slice none 0 0, .slice none 0 0, .slice none 0 0, .slice none 0 0] 31)) w0.heap.size 7 1 := TB.lit1 (Θ := Θw) (kd := 7) hB (by decide) ⟨Or.inl ⟨_, rfl⟩, Or.inl ⟨_, rfl⟩, Or.inl ⟨_, rfl⟩, Or.inl ⟨_, rfl⟩, trivial⟩
  obtain ⟨w1, hw1⟩ : ∃ z, z = w0.alloc (.cells #[.slice none 0 0, .slice none 0 0, .slice none 0 0, .slice none 0 0] 31) := ⟨_, rfl⟩
  obtain ⟨rb, hrb⟩ : ∃ z, z = w0.heap.size := ⟨_, rfl⟩
  rw [← hw1] at hk1 ha1
  rw [← hrb] at ha1
  have HW1 := Lib.hid hw1
  have HRN := Lib.hid hrb
  have HRB1 := Lib.hid ha1
  have HGX1 := Lib.hid (show GenX σ B N N n 0 w0 w1 n from ⟨hs.keep hk1, Nat.le_refl _, Nat.le_refl _, hk1.mono (fun _ _ => trivial), Goes.all hk1, Nat.le_trans hB hk1.size⟩)
  have HG1 := Lib.hid (hg.keep hk1)
  have HRW := Lib.hid (rightWorld_any σ n B N pp w1 HGX1.out.st (by omega) h7 hσ HGX1.out.lt HG1.out hp hN)
  clear hk1 ha1 hw1 hrb hs hg hB
  go_enter Tryz.func10, Tryz.ntmps10
  go_upto_region 1 with fail
  simp only [← HRN.out, ← HW1.out]
  go_wp2_with fail
  refine HRW.out.mono ?_
  rintro e w2 ⟨v, m2, N2, rfl, ⟨a0, an0, ac0, a1, an1, ac1, a2, an2, ac2, a3, an3, ac3, rfl, g0, g1, g2, g3⟩, hgx, hn2⟩
  have HGX2 := Lib.hid (HGX1.out.gen hgx)
  have hrb2 := hgx.goes.tb _ _ _ HRB1.out
  have HN2 := Lib.hid hn2
  have hkl : All w2 (w2.alloc (.cells #[.slice a0 an0 ac0, .slice a1 an1 ac1, .slice a2 an2 ac2, .slice a3 an3 ac3] 31)) := Kept.alloc _ _ _
  have htl : TB Θw B N2 (w2.alloc (.cells #[.slice a0 an0 ac0, .slice a1 an1 ac1, .slice a2 an2 ac2, .slice a3 an3 ac3] 31)) w2.heap.size 7 1 := TB.lit1 (Θ := Θw) (kd := 7) (vs := [.slice a0 an0 ac0, .slice a1 an1 ac1, .slice a2 an2 ac2, .slice a3 an3 ac3]) hgx.lt (by decide) ⟨g0, g1, g2, g3, trivial⟩
  obtain ⟨w3, hw3⟩ : ∃ z, z = w2.alloc (.cells #[.slice a0 an0 ac0, .slice a1 an1 ac1, .slice a2 an2 ac2, .slice a3 an3 ac3] 31) := ⟨_, rfl⟩
  obtain ⟨wb, hwb⟩ : ∃ z, z = w2.heap.size := ⟨_, rfl⟩
  rw [← hw3] at hkl htl
  rw [← hwb] at htl
  have HW3 := Lib.hid hw3
  have HWN := Lib.hid hwb
  have HGX3 := Lib.hid (HGX2.out.alls hσ hkl)
  have HRB3 := Lib.hid ((Goes.all (Θ := Θw) (N := N2) hkl).tb _ _ _ hrb2)
  have HWB3 := Lib.hid htl
  clear g0 g1 g2 g3 hgx hrb2 hn2 hkl htl hw3 hwb HGX1 HGX2 HRB1 HRW
  go_upto_region 2 with fail
  simp only [← HWN.out, ← HW3.out]
  have hst := HGX3.out.st
  have hhi := HGX3.out.hi
  go_wp2_with fail
  refine (flip_any σ m2 8 _ hst (by omega) (by omega) (by omega)).mono ?_
  rintro e w4 ⟨v, m4, rfl, ⟨b, rfl⟩, hA8, hB8, hs8, hb8⟩
  have HGX4 := Lib.hid (HGX3.out.call hσ hb8 hs8 hA8 hB8)
  have HRB4 := Lib.hid ((Goes.but (Θ := Θw) (N := N2) hb8 hσ).tb _ _ _ HRB3.out)
  have HWB4 := Lib.hid ((Goes.but (Θ := Θw) (N := N2) hb8 hσ).tb _ _ _ HWB3.out)
  clear hst hhi hs8 hb8 hA8 hB8 HGX3 HRB3 HWB3
  obtain ⟨v0, vn0, vc0, v1, vn1, vc1, v2, vn2, vc2, v3, vn3, vc3, f0, f1, f2, f3, g0, g1, g2, g3⟩ := HWB4.out.wld (by decide)
  cases b with
  | false =>
    have HVG0 := Lib.hid g0
    have HVG1 := Lib.hid g1
    have HVG2 := Lib.hid g2
    have HVG3 := Lib.hid g3
    have hhi := HGX4.out.hi
    clear g0 g1 g2 g3
    obtain ⟨b0, o0, p0, b1, o1, p1, b2, o2, p2, b3, o3, p3, r0, r1, r2, r3, -⟩ := HRB4.out.wld (by decide)
    have z0 := HRB4.out.fz 0
    have z1 := HRB4.out.fz 1
    have z2 := HRB4.out.fz 2
    have z3 := HRB4.out.fz 3
    obtain ⟨hwg, hff, q0', q1', q2', q3'⟩ := wldFin HRB4.out HVG0.out HVG1.out HVG2.out HVG3.out
    have HWG := Lib.hid hwg
    have HFF := Lib.hid (HGX4.out.fin hff (c' := 40000000) HRB4.out.low hσ (by omega))
    have HNF := Lib.hid (show ∀ x, 8 ≤ N2 x ∧ N2 x ≤ 101 from fun x => by have := HN2.out x; omega)
    clear hwg hff
    go_wp2_with fail
    refine bodyPost_ret (v := .agg #[.slice v0 vn0 vc0, .slice v1 vn1 vc1, .slice v2 vn2 vc2, .slice v3 vn3 vc3]) ?_ rfl ⟨_, _, N2, rfl, HWG.out, HFF.out, HNF.out⟩
    simp [results, Tryz.results10, go_sem, q0', q1', q2', q3']
  | true =>
    have HSP := Lib.hid (spoiledWorld_any σ m4 B N2 v0 vn0 vc0 v1 vn1 vc1 v2 vn2 vc2 v3 vn3 vc3 w4 HGX4.out.st (by have := HGX4.out.hi; omega) hσ HGX4.out.lt g0 g1 g2 g3 (fun x => (HN2.out x).1) (fun x => by have := HN2.out x; omega))
    clear g0 g1 g2 g3
    go_wp2_with fail
    refine HSP.out.mono ?_
    rintro e w5 ⟨v, m5, N5, rfl, ⟨u0, un0, uc0, u1, un1, uc1, u2, un2, uc2, u3, un3, uc3, rfl, g0, g1, g2, g3⟩, hgx, hn5⟩
    have HVG0 := Lib.hid g0
    have HVG1 := Lib.hid g1
    have HVG2 := Lib.hid g2
    have HVG3 := Lib.hid g3
    have HRB5 := Lib.hid (hgx.goes.tb _ _ _ HRB4.out)
    have HGX5 := Lib.hid (HGX4.out.gen hgx)
    have HN5 := Lib.hid (show ∀ x, 8 ≤ N5 x ∧ N5 x ≤ 101 from fun x => by have := HN2.out x; have := hn5 x; have := hgx.goes.le x; omega)
    have hhi := HGX5.out.hi
    clear g0 g1 g2 g3 hgx hn5 HSP
    obtain ⟨b0, o0, p0, b1, o1, p1, b2, o2, p2, b3, o3, p3, r0, r1, r2, r3, -⟩ := HRB5.out.wld (by decide)
    have z0 := HRB5.out.fz 0
    have z1 := HRB5.out.fz 1
    have z2 := HRB5.out.fz 2
    have z3 := HRB5.out.fz 3
    obtain ⟨hwg, hff, q0', q1', q2', q3'⟩ := wldFin HRB5.out HVG0.out HVG1.out HVG2.out HVG3.out
    have HWG := Lib.hid hwg
    have HFF := Lib.hid (HGX5.out.fin hff (c' := 40000000) HRB5.out.low hσ (by omega))
    have HNF := Lib.hid (show ∀ x, 8 ≤ N5 x ∧ N5 x ≤ 101 from HN5.out)
    clear hwg hff
    go_wp2_with fail
    refine bodyPost_ret (v := .agg #[.slice u0 un0 uc0, .slice u1 un1 uc1, .slice u2 un2 uc2, .slice u3 un3 uc3]) ?_ rfl ⟨_, _, N5, rfl, HWG.out, HFF.out, HNF.out⟩
    simp [results, Tryz.results10, go_sem, q0', q1', q2', q3']

/-- Two numbers that are not great. -/
def IsTerms (v : Value) (_ : World) : Prop := ∃ x y : Int, v = .agg #[.int .i64 x, .int .i64 y] ∧ (-2000000000000 ≤ x ∧ x ≤ 2000000000000) ∧ (-2000000000000 ≤ y ∧ y ≤ 2000000000000)
set_option maxHeartbeats 1600000 in
theorem terms_any (σ : St) (n : Nat) (w0 : World) (hs : Str σ w0 n) (hn : n ≤ 4611686018427380000) :
    Calls Tryz.prog 12 #[.pointer (some ⟨σ.b, 0, none⟩)] w0 (StPost σ n 2 w0 IsTerms) := by
  have hlt0 := hs.lt
  have hk0 : All w0 (w0.alloc (.cells #[.int .i64 0, .int .i64 0] 35)) := Kept.alloc _ _ _
  have hb0 := heap_at w0 (.cells #[.int .i64 0, .int .i64 0] 35) _ rfl
  obtain ⟨w, hw⟩ : ∃ z, z = w0.alloc (.cells #[.int .i64 0, .int .i64 0] 35) := ⟨_, rfl⟩
  obtain ⟨rb, hrb⟩ : ∃ z, z = w0.heap.size := ⟨_, rfl⟩
  rw [← hw] at hk0 hb0
  rw [← hrb] at hb0
  have HW := Lib.hid hw
  have HRB := Lib.hid hrb
  have HRS := Lib.hid (show rb ≠ σ.b by omega)
  have HRL := Lib.hid (show w0.heap.size ≤ rb by omega)
  have hs1 := hs.keep hk0
  have hlt := hs1.lt
  have hk : All w (w.alloc (.cells #[.int .i64 0, .int .i64 30, .int .i64 30, .int .i64 100, .int .i64 4000, .int .i64 (-1), .int .i64 4001] 3)) := Kept.alloc _ _ _
  have ht : TB Θw w.heap.size (fun _ => 1000) (w.alloc (.cells #[.int .i64 0, .int .i64 30, .int .i64 30, .int .i64 100, .int .i64 4000, .int .i64 (-1), .int .i64 4001] 3)) w.heap.size 9 7 := TB.litN (Θ := Θw) (kd := 9) (f := .i) (vs := [.int .i64 0, .int .i64 30, .int .i64 30, .int .i64 100, .int .i64 4000, .int .i64 (-1), .int .i64 4001]) (by omega) rfl rfl ⟨⟨_, rfl, by decide, by decide⟩, ⟨_, rfl, by decide, by decide⟩, ⟨_, rfl, by decide, by decide⟩, ⟨_, rfl, by decide, by decide⟩, ⟨_, rfl, by decide, by decide⟩, ⟨_, rfl, by decide, by decide⟩, ⟨_, rfl, by decide, by decide⟩, trivial⟩
  have HP := Lib.hid (pickI_any (hs1.keep hk) (by omega) hlt ht (by decide) (by decide))
  have HB1 := Lib.hid (hk.heap hb0 trivial)
  have HK1 := Lib.hid (hk0.trans hk)
  clear ht hk hk0 hb0 hw hrb hs1 hlt
  go_enter Tryz.func12, Tryz.ntmps12
  go_upto_region 1 with fail
  simp only [← HRB.out, ← HW.out]
  go_wp2_with fail
  refine HP.out.mono ?_
  rintro e w2 ⟨v, m2, rfl, ⟨x, rfl, hx⟩, h1, h2, hs2, hb2⟩
  have hlt2 := hs2.lt
  have hk : All w2 (w2.alloc (.cells #[.int .i64 0, .int .i64 10, .int .i64 50, .int .i64 100, .int .i64 4000, .int .i64 4001] 3)) := Kept.alloc _ _ _
  have ht : TB Θw w2.heap.size (fun _ => 1000) (w2.alloc (.cells #[.int .i64 0, .int .i64 10, .int .i64 50, .int .i64 100, .int .i64 4000, .int .i64 4001] 3)) w2.heap.size 9 6 := TB.litN (Θ := Θw) (kd := 9) (f := .i) (vs := [.int .i64 0, .int .i64 10, .int .i64 50, .int .i64 100, .int .i64 4000, .int .i64 4001]) (by omega) rfl rfl ⟨⟨_, rfl, by decide, by decide⟩, ⟨_, rfl, by decide, by decide⟩, ⟨_, rfl, by decide, by decide⟩, ⟨_, rfl, by decide, by decide⟩, ⟨_, rfl, by decide, by decide⟩, ⟨_, rfl, by decide, by decide⟩, trivial⟩
  have HP2 := Lib.hid (pickI_any (hs2.keep hk) (by omega) hlt2 ht (by decide) (by decide))
  have HB2 := Lib.hid (hk.heap (hb2.heap HB1.out HRS.out) trivial)
  have HK2 := Lib.hid (HK1.out.all.trans (hb2.trans hk.all))
  have HX := Lib.hid hx
  have hm1 := Lib.hid h1
  have hm2 := Lib.hid h2
  clear ht hk hs2 hb2 hx h1 h2 HP HB1 HK1 hlt2
  go_wp2_with fail
  refine HP2.out.mono ?_
  rintro e w3 ⟨v, m3, rfl, ⟨y, rfl, hy⟩, h1, h2, hs3, hb3⟩
  have hb9 := hb3.heap HB2.out HRS.out
  have c0 := cell_at (i := 0) hb9 rfl
  have c1 := cell_at (i := 1) hb9 rfl
  have z0 : w3.frozen? ⟨rb, 0, none⟩ = false := frozen_at hb9
  have z1 : w3.frozen? ⟨rb, 1, none⟩ = false := frozen_at hb9
  have hkS : Kept (fun b => b ≠ rb) w3 ((w3.setCell ⟨rb, 0, none⟩ (.int .i64 x)).setCell ⟨rb, 1, none⟩ (.int .i64 y)) := (Kept.setCell _ _ _ (fun h => h rfl)).then_setCell _ _ (fun h => h rfl)
  have hst := hs3.kept hkS (fun j hj => by have := HRL.out; omega)
  have HK3 := Lib.hid (show But σ.b w0 ((w3.setCell ⟨rb, 0, none⟩ (.int .i64 x)).setCell ⟨rb, 1, none⟩ (.int .i64 y)) from (HK2.out.trans hb3).trans2 (G := fun b => b ≠ rb) hkS (fun i hi _ => by have := HRL.out; omega))
  have HF := Lib.hid (show StPost σ n 2 w0 IsTerms (.returned (.agg #[.int .i64 x, .int .i64 y])) ((w3.setCell ⟨rb, 0, none⟩ (.int .i64 x)).setCell ⟨rb, 1, none⟩ (.int .i64 y)) from ⟨_, m3, rfl, ⟨x, y, rfl, HX.out, hy⟩, by have := hm1.out; omega, by have := hm2.out; omega, hst, HK3.out⟩)
  have q0 : ((w3.setCell ⟨rb, 0, none⟩ (.int .i64 x)).setCell ⟨rb, 1, none⟩ (.int .i64 y)).cell? ⟨rb, 0, none⟩ = some (.int .i64 x) := by
    rw [World.cell?_setCell_other _ _ _ _ (by intro h; injection h with _ h; exact absurd h (by decide))]
    exact World.cell?_setCell_same' _ _ _ (by rw [c0]; rfl)
  have q1 : ((w3.setCell ⟨rb, 0, none⟩ (.int .i64 x)).setCell ⟨rb, 1, none⟩ (.int .i64 y)).cell? ⟨rb, 1, none⟩ = some (.int .i64 y) := by
    refine World.cell?_setCell_same' _ _ _ ?_
    rw [World.cell?_setCell_other _ _ _ _ (by intro h; injection h with _ h; exact absurd h (by decide)), c1]; rfl
  clear hkS hst hb9 hs3 hb3 h1 h2 hy
  go_wp2_with fail
  refine bodyPost_ret (v := .agg #[.int .i64 x, .int .i64 y]) ?_ rfl HF.out
  simp [results, Tryz.results12, go_sem, q0, q1]
end Go.Proofs.YtgobnlgmbplggaaGreatDoor

/- Lines, words and numbers of package kit. -/
namespace Go.Proofs.YtgobnlgmbplggaaGreatDoor
open Go.RowKit

def nlB : ByteArray := ⟨#[10]⟩
theorem size_list (s : ByteArray) : s.size = s.data.toList.length := rfl
theorem empty_data {s : ByteArray} (h : s.size = 0) : s = ⟨#[]⟩ := Go.WideShapes.bytes_inj (List.eq_nil_of_length_eq_zero (by rw [← size_list]; exact h))
def itoaB (z : Int) : ByteArray := ⟨(Lib.itoa z).toArray⟩
theorem All.bytesWorld (w : World) (e : TypeId) (s : ByteArray) : All w (Lib.bytesWorld w e s) :=
  ⟨rfl, rfl, rfl, by rw [Lib.bytesWorld_size]; omega, fun k hk _ => Lib.bytesWorld_at_old w e s k hk⟩
def emptB : ByteArray := ⟨#[]⟩
def isDg (b : UInt8) : Bool := decide (48 ≤ b.toNat) && decide (b.toNat ≤ 57)
def digitsOf (s : ByteArray) : List UInt8 := Lib.trimPrefix s.data.toList [45]
def numOk (s : ByteArray) : Bool := decide ((digitsOf s) ≠ []) && decide ((digitsOf s).length ≤ 9) && !(decide ((digitsOf s).head? = some 48) && decide (s.data.toList ≠ [48])) && (digitsOf s).all isDg
def numF (s : ByteArray) : Option Int := if numOk s then Lib.atoi s.data.toList else none
theorem isDg_val {b : UInt8} (h : isDg b = true) : Lib.digitVal b = some (b.toNat - 48) := by
  simp [isDg] at h
  rw [Lib.digitVal, if_pos h]
theorem decFrom_all : ∀ (l : List UInt8) (acc : Nat), l.all isDg = true → ∃ n, Lib.decFrom acc l = some n
  | [], acc, _ => ⟨acc, rfl⟩
  | b :: l, acc, h => by
    simp only [List.all_cons, Bool.and_eq_true] at h
    rw [Lib.decFrom, isDg_val h.1]
    exact decFrom_all l _ h.2
theorem decFrom_snoc (b : UInt8) (h : isDg b = true) : ∀ (l : List UInt8) (acc n : Nat), Lib.decFrom acc l = some n → Lib.decFrom acc (l ++ [b]) = some (n * 10 + (b.toNat - 48))
  | [], acc, n, hn => by
    simp only [Lib.decFrom, Option.some.injEq] at hn
    subst hn
    simp [Lib.decFrom, isDg_val h]
  | x :: l, acc, n, hn => by
    rw [List.cons_append]
    rw [Lib.decFrom] at hn ⊢
    cases hx : Lib.digitVal x with
    | none => rw [hx] at hn; exact (nomatch hn)
    | some d => rw [hx] at hn; exact decFrom_snoc b h l _ n hn
theorem decDigits_step {u : Nat} (h : ¬ u < 10) : Lib.decDigits u = Lib.decDigits (u / 10) ++ [UInt8.ofNat (48 + u % 10)] := by
  rw [Lib.decDigits, dif_neg h]
theorem ofNat_dg {b : UInt8} (h : isDg b = true) : UInt8.ofNat (48 + (b.toNat - 48)) = b := by
  simp [isDg] at h
  rw [show 48 + (b.toNat - 48) = b.toNat by omega]
  simp
theorem head_pos : ∀ (l : List UInt8) (b : UInt8) (n : Nat), l.all isDg = true → isDg b = true → b ≠ 48 → Lib.decFrom 0 (b :: l) = some n → 1 ≤ n := by
  intro l b n hl hb hne h
  rw [Lib.decFrom, isDg_val hb] at h
  have h48 : b.toNat ≠ 48 := fun e => hne (UInt8.toNat_inj.1 (by rw [e]; rfl))
  have h49 : 48 ≤ b.toNat := by simp [isDg] at hb; exact hb.1
  have key : ∀ (l : List UInt8) (acc m : Nat), Lib.decFrom acc l = some m → acc ≤ m := by
    intro l
    induction l with
    | nil => intro acc m h; simp only [Lib.decFrom, Option.some.injEq] at h; omega
    | cons x l ih =>
      intro acc m h
      rw [Lib.decFrom] at h
      cases hx : Lib.digitVal x with
      | none => rw [hx] at h; exact (nomatch h)
      | some d => rw [hx] at h; have := ih _ m h; omega
  have := key _ _ _ h
  omega
theorem head_app {l r : List UInt8} (h : l ≠ []) : (l ++ r).head? = l.head? := by
  cases l with
  | nil => exact absurd rfl h
  | cons x l => rfl
/-- What is spelled without a needless 0 is written so. -/
theorem decDigits_back : ∀ (k : Nat) (l : List UInt8) (n : Nat), l.length = k + 1 → l.all isDg = true → (l.head? ≠ some 48 ∨ k = 0) → Lib.decFrom 0 l = some n → Lib.decDigits n = l
  | 0, l, n, hk, ha, _, h => by
    match l, hk with
    | [b], _ => 
      simp only [List.all_cons, List.all_nil, Bool.and_true] at ha
      rw [Lib.decFrom, isDg_val ha] at h
      simp only [Lib.decFrom, Option.some.injEq] at h
      have h57 : b.toNat ≤ 57 := by simp [isDg] at ha; exact ha.2
      rw [Lib.decDigits_one (by omega), ← h]
      rw [show 48 + (0 * 10 + (b.toNat - 48)) = 48 + (b.toNat - 48) by omega, ofNat_dg ha]
  | k + 1, l, n, hk, ha, hh, h => by
    have hne : l ≠ [] := fun e => by rw [e] at hk; simp at hk
    obtain ⟨r, b, rfl⟩ : ∃ r b, l = r ++ [b] := ⟨l.dropLast, l.getLast hne, (List.dropLast_concat_getLast hne).symm⟩
    rw [List.all_append, Bool.and_eq_true] at ha
    have hb : isDg b = true := by simpa using ha.2
    have hr : r.length = k + 1 := by simp at hk; omega
    have hrn : r ≠ [] := fun e => by rw [e] at hr; simp at hr
    obtain ⟨m, hm⟩ := decFrom_all r 0 ha.1
    rw [decFrom_snoc b hb r 0 m hm] at h
    have h57 : 48 ≤ b.toNat ∧ b.toNat ≤ 57 := by simpa [isDg] using hb
    have hhr : r.head? ≠ some 48 := by
      rcases hh with hh | hh
      · rwa [head_app hrn] at hh
      · exact absurd hh (by omega)
    have hm1 : 1 ≤ m := by
      cases r with
      | nil => exact absurd rfl hrn
      | cons x r =>
        simp only [List.all_cons, Bool.and_eq_true] at ha
        exact head_pos r x m ha.1.2 ha.1.1 (fun e => hhr (by rw [e]; rfl)) hm
    have hn : n = m * 10 + (b.toNat - 48) := (Option.some.inj h).symm
    have ih := decDigits_back k r m hr ha.1 (Or.inl hhr) hm
    rw [decDigits_step (by omega), show n / 10 = m by omega, show n % 10 = b.toNat - 48 by omega, ih, ofNat_dg hb]
theorem decDigits_head : ∀ (f u : Nat), u ≤ f → 1 ≤ u → (Lib.decDigits u).head? ≠ some 48
  | 0, u, h, h1 => by omega
  | f + 1, u, h, h1 => by
    by_cases h10 : u < 10
    · rw [Lib.decDigits_one h10]
      intro e
      have e2 : UInt8.ofNat (48 + u) = 48 := by simpa using e
      have e3 := congrArg UInt8.toNat e2
      rw [UInt8.toNat_ofNat_of_lt' (by show 48 + u < 256; omega), show (48 : UInt8).toNat = 48 from rfl] at e3
      omega
    · rw [decDigits_step h10]
      have h2 := decDigits_head f (u / 10) (by omega) (by omega)
      have h3 : Lib.decDigits (u / 10) ≠ [] := fun e => by
        have := Lib.decDigits_length (u / 10)
        have h4 := Lib.nDigits_pos (u / 10)
        rw [e] at this; simp at this; omega
      rwa [head_app h3]
theorem trim_minus (r : List UInt8) : Lib.trimPrefix (45 :: r) [45] = r := by
  rw [Lib.trimPrefix, if_pos (by simp [Lib.hasPrefix])]; rfl
theorem trim_other {l : List UInt8} (h : l.head? ≠ some 45) : Lib.trimPrefix l [45] = l := by
  rw [Lib.trimPrefix]
  split
  · rename_i hp
    cases l with
    | nil => simp [Lib.hasPrefix] at hp
    | cons x l =>
      simp [Lib.hasPrefix] at hp
      exact absurd (by rw [hp]; rfl) h
  · rfl
theorem digitVal_lt {l : List UInt8} {n : Nat} (h : Lib.decFrom 0 l = some n) (hl : l.length ≤ 9) : n < 1000000000 := by
  have h1 := Lib.decFrom_lt l 0 n h
  have h2 : 10 ^ l.length ≤ 10 ^ 9 := Nat.pow_le_pow_right (by decide) hl
  omega
/-- What digits behind at most one sign spell, and how that is written. -/
theorem atoi_digits {s : ByteArray} (h1 : digitsOf s ≠ []) (h2 : (digitsOf s).length ≤ 9) (h3 : (digitsOf s).all isDg = true) :
    ∃ n, Lib.atoi s.data.toList = some n ∧ -1000000000 < n ∧ n < 1000000000 ∧ s.size ≤ 10 ∧ ((itoaB n).data.toList = s.data.toList ↔ ¬ ((digitsOf s).head? = some 48 ∧ s.data.toList ≠ [48])) := by
  have hsz := size_list s
  obtain ⟨l, hl⟩ : ∃ l, l = s.data.toList := ⟨_, rfl⟩
  unfold digitsOf at h1 h2 h3 ⊢
  rw [← hl] at h1 h2 h3 hsz ⊢
  obtain ⟨m, hm⟩ := decFrom_all _ 0 h3
  have hml := digitVal_lt hm h2
  have hit : ∀ n : Int, (itoaB n).data.toList = Lib.itoa n := fun n => rfl
  by_cases hd : l.head? = some 45
  · obtain ⟨r, rfl⟩ : ∃ r, l = 45 :: r := by
      cases l with
      | nil => exact (nomatch hd)
      | cons x r => simp at hd; exact ⟨r, by rw [hd]⟩
    rw [trim_minus] at h1 h2 h3 hm ⊢
    have hne : r.isEmpty = false := by cases r <;> simp_all
    refine ⟨-(m : Int), ?_, by omega, by omega, by rw [hsz]; simp; omega, ?_⟩
    · have : Lib.decNat r = some m := by rw [Lib.decNat, hne]; exact hm
      simp [Lib.atoi, this]
    · rw [hit]
      obtain ⟨k, hk⟩ : ∃ k, r.length = k + 1 := ⟨r.length - 1, by have := List.length_pos_iff.2 h1; omega⟩
      constructor
      · rintro e ⟨h48, -⟩
        by_cases hm0 : m = 0
        · subst hm0
          have e2 : Lib.itoa (-((0 : Nat) : Int)) = [48] := by rw [Lib.itoa, if_neg (by simp)]; exact Lib.decDigits_one (by decide)
          rw [e2] at e
          simp at e
        · rw [Lib.itoa, if_pos (by omega)] at e
          have e2 : Lib.decDigits m = r := by have := (List.cons.inj e).2; rwa [show (-(m : Int)).natAbs = m by omega] at this
          exact decDigits_head m m (Nat.le_refl _) (by omega) (by rw [e2]; exact h48)
      · intro hc
        have h48 : r.head? ≠ some 48 := fun e => hc ⟨e, by simp⟩
        have hm1 : 1 ≤ m := by
          cases r with
          | nil => exact absurd rfl h1
          | cons x r =>
            simp only [List.all_cons, Bool.and_eq_true] at h3
            exact head_pos r x m h3.2 h3.1 (fun e => h48 (by rw [e]; rfl)) hm
        rw [Lib.itoa, if_pos (by omega), show (-(m : Int)).natAbs = m by omega, decDigits_back k r m hk h3 (Or.inl h48) hm]
  · rw [trim_other hd] at h1 h2 h3 hm ⊢
    have hne : l.isEmpty = false := by cases l <;> simp_all
    refine ⟨(m : Int), ?_, by omega, by omega, by rw [hsz]; omega, ?_⟩
    · have hdn : Lib.decNat l = some m := by rw [Lib.decNat, hne]; exact hm
      cases l with
      | nil => exact absurd rfl h1
      | cons x r =>
        have hx45 : x ≠ 45 := fun e => hd (by rw [e]; rfl)
        have hx43 : x ≠ 43 := fun e => by
          rw [e] at h3
          simp [isDg] at h3
        rw [Lib.atoi, if_neg (by simpa using hx45), if_neg (by simpa using hx43), hdn]; rfl
    · rw [hit]
      obtain ⟨k, hk⟩ : ∃ k, l.length = k + 1 := ⟨l.length - 1, by have := List.length_pos_iff.2 h1; omega⟩
      rw [Lib.itoa, if_neg (by omega), show ((m : Nat) : Int).toNat = m by omega]
      constructor
      · rintro e ⟨h48, hn48⟩
        by_cases hm0 : m = 0
        · subst hm0
          rw [Lib.decDigits_one (by decide)] at e
          exact hn48 e.symm
        · exact decDigits_head m m (Nat.le_refl _) (by omega) (by rw [e]; exact h48)
      · intro hc
        by_cases h48 : l.head? = some 48
        · have he : l = [48] := Classical.not_not.1 (fun e => hc ⟨h48, e⟩)
          subst he
          exact decDigits_back 0 [48] m rfl h3 (Or.inr rfl) hm
        · exact decDigits_back k l m hk h3 (Or.inl h48) hm
def rowsB (sep s : ByteArray) : List ByteArray := Lib.splitB sep 0 (Lib.countB s sep) s
theorem rowsB_len (sep s : ByteArray) (h1 : 1 ≤ sep.size) : (rowsB sep s).length = Lib.countB s sep + 1 := Lib.splitB_all sep h1 0 _ s rfl
theorem rowsB_le (sep s : ByteArray) (h1 : 1 ≤ sep.size) : (rowsB sep s).length ≤ s.size + 1 := by
  have := Lib.countB_le sep h1 _ s (Nat.le_refl _)
  rw [rowsB_len sep s h1]; omega
theorem rowsB_size (sep s : ByteArray) : ∀ x ∈ rowsB sep s, x.size ≤ s.size := splitB_size sep _ s
def endedOf (s : ByteArray) : Bool := decide ((rowsB nlB s).getLast? = some emptB)
def linesOf (s : ByteArray) : List ByteArray := if endedOf s then (rowsB nlB s).dropLast else rowsB nlB s
theorem words_any (s : ByteArray) (n : Nat) (w : World) (hs : s.size ≤ 900000) (hn : (rowsB spB s).length = n) (hg : Glob w) :
    Calls Tryz.prog 192 #[.string s] w fun e w' => e = .returned (.tuple #[.slice (some ⟨w.heap.size, 0, none⟩) n n, .bool (!memB emptB (rowsB spB s))]) ∧ w' = w.alloc (.cells ((rowsB spB s).map Value.string).toArray 9) := by
  obtain ⟨mx, hmx⟩ := hg.most
  have hsp := Lib.hid (Tryz.strings_Split s spB mx w (by omega) hmx (by decide))
  have hln := rowsB_len spB s (by decide)
  rw [hn] at hln
  rw [← hln] at hsp
  have hle := rowsB_le spB s (by decide)
  have hsz := rowsB_size spB s
  have hsp2 := Lib.hid (show Calls Tryz.prog 92 #[.string s, .string spB] w fun e w' => e = .returned (.slice (some ⟨w.heap.size, 0, none⟩) n n) ∧ w' = w.alloc (.cells ((rowsB spB s).map Value.string).toArray 9) from hsp.out)
  obtain ⟨ws, hws⟩ : ∃ z, z = rowsB spB s := ⟨_, rfl⟩
  rw [← hws] at hn hle hsz hsp2 ⊢
  obtain ⟨ob, hob⟩ : ∃ o : Obj, o = .cells (ws.map Value.string).toArray 9 := ⟨_, rfl⟩
  rw [← hob] at hsp2 ⊢
  have hblk := heap_at w ob _ rfl
  rw [hob] at hblk
  rw [← hob] at hblk
  have hsl : Sl RStr 1 (fun _ => True) (w.alloc ob) (some ⟨w.heap.size, 0, none⟩) n ws := Sl.of_strs hn trivial (fun i hi => by
    rw [hob] at hblk
    exact cell_at (by rw [← hob] at hblk; rw [hob] at hblk ⊢; exact hblk) (by rw [Nat.zero_add]; simp [List.getD_eq_getElem?_getD, List.getElem?_eq_getElem (show i < ws.length by omega)])) (fun x hx => by have := hsz x hx; omega)
  have hc := Lib.hid (contains_any (some ⟨w.heap.size, 0, none⟩) n n ws emptB (w.alloc ob) hsl (by omega))
  obtain ⟨bt, hbt⟩ : ∃ z, z = memB emptB ws := ⟨_, rfl⟩
  rw [← hbt] at hc ⊢
  clear hmx hblk hsp hsl hln hle hsz hws hob hbt hn hg
  go_enter Tryz.func192, Tryz.ntmps192
  go_wp2_with fail
  refine hsp2.out.mono ?_
  rintro e w2 ⟨rfl, rfl⟩
  go_wp2_with fail
  refine hc.out.mono ?_
  rintro e w3 ⟨rfl, hh⟩
  subst hh
  go_wp2_with fail
  go_ret2
  exact ⟨rfl, rfl⟩
theorem numOk_iff (s : ByteArray) : numOk s = true ↔ (digitsOf s ≠ [] ∧ (digitsOf s).length ≤ 9) ∧ ¬ ((digitsOf s).head? = some 48 ∧ s.data.toList ≠ [48]) ∧ (digitsOf s).all isDg = true := by
  simp only [numOk, Bool.and_eq_true, decide_eq_true_eq, Bool.not_eq_true', Bool.and_eq_false_iff, decide_eq_false_iff_not]
  constructor
  · rintro ⟨⟨⟨h1, h2⟩, h3⟩, h4⟩; exact ⟨⟨h1, h2⟩, fun e => h3.elim (fun h => h e.1) (fun h => h e.2), h4⟩
  · rintro ⟨⟨h1, h2⟩, h3, h4⟩; exact ⟨⟨⟨h1, h2⟩, if h : (digitsOf s).head? = some 48 then Or.inr (fun e => h3 ⟨h, e⟩) else Or.inl h⟩, h4⟩
def digB (s : ByteArray) : ByteArray := ⟨(Lib.trimPrefix s.data.toList (⟨#[45]⟩ : ByteArray).data.toList).toArray⟩
theorem digB_data (s : ByteArray) : (digB s).data.toList = digitsOf s := by
  show (Lib.trimPrefix s.data.toList [45]).toArray.toList = _
  rw [List.toList_toArray]; rfl
theorem byte_at (d : ByteArray) {k : Nat} (h : k < d.size) : d.data.toList[k]? = some d[k] := by
  rw [Array.getElem?_toList]
  exact Array.getElem?_eq_getElem h
theorem digs_all {s : ByteArray} (h : ∀ (k : Nat) (hk : k < (digB s).size), 48 ≤ (digB s)[k].toNat ∧ (digB s)[k].toNat ≤ 57) : (digitsOf s).all isDg = true := by
  rw [List.all_eq_true]
  intro b hb
  obtain ⟨k, hk⟩ := List.mem_iff_getElem?.1 hb
  have hl := (List.getElem?_eq_some_iff.1 hk).1
  have hl2 : k < (digB s).size := by rw [size_list, digB_data]; exact hl
  have h2 := byte_at (digB s) hl2
  rw [digB_data, hk] at h2
  have h3 := h k hl2
  rw [Option.some.inj h2]
  simp [isDg, h3.1, h3.2]
theorem digs_not {s : ByteArray} {k : Nat} (hk : k < (digB s).size) (h : ¬ (48 ≤ (digB s)[k].toNat ∧ (digB s)[k].toNat ≤ 57)) : ¬ (digitsOf s).all isDg = true := by
  intro ha
  have h2 := byte_at (digB s) hk
  rw [digB_data] at h2
  have h3 := List.all_eq_true.1 ha _ (List.mem_of_getElem? h2)
  simp [isDg] at h3
  exact h h3
theorem digs_head {s : ByteArray} (h : 0 < (digB s).size) : (digitsOf s).head? = some 48 ↔ (digB s)[0].toNat = 48 := by
  have h2 := byte_at (digB s) h
  rw [digB_data] at h2
  rw [List.head?_eq_getElem?, h2]
  constructor
  · intro e; rw [Option.some.inj e]; rfl
  · intro e; rw [← UInt8.toNat_inj.1 (show (digB s)[0].toNat = (48 : UInt8).toNat from e)]
def NumPost (s : ByteArray) (w : World) (e : Ending) (w' : World) : Prop := ∃ (v : Int) (ok : Bool), e = .returned (.tuple #[.int .i64 v, .bool ok]) ∧ All w w' ∧ numF s = (if ok = true then some v else none)
theorem NumPost.no {s : ByteArray} {w w' : World} (h : ¬ numOk s = true) (hk : All w w') : NumPost s w (.returned (.tuple #[.int .i64 0, .bool false])) w' :=
  ⟨0, false, rfl, hk, by rw [numF, if_neg h]; rfl⟩
set_option maxHeartbeats 3200000 in
theorem number_any (s : ByteArray) (w : World) : Calls Tryz.prog 247 #[.string s, .int .i64 9] w (NumPost s w) := by
  have HT := Lib.hid (show Calls Tryz.prog 288 #[.string s, .string ⟨#[45]⟩] w fun e w' => e = .returned (.string (digB s)) ∧ w' = w from Tryz.strings_TrimPrefix s ⟨#[45]⟩ w)
  have hiff := numOk_iff s
  have hdl : (digB s).size = (digitsOf s).length := by rw [size_list, digB_data]
  have hsl : (s.toList == [48]) = decide (s.data.toList = [48]) := by
    rw [Go.ByteArray.toList_eq]
    by_cases h : s.data.toList = [48]
    · rw [h]; rfl
    · rw [decide_eq_false h, beq_eq_false_iff_ne]; exact h
  have D1 := Lib.hid (@digs_all s)
  have D2 := Lib.hid (fun k => @digs_not s k)
  have D3 := Lib.hid (@digs_head s)
  have D4 := Lib.hid (@atoi_digits s)
  obtain ⟨d, hd⟩ : ∃ d, d = digB s := ⟨_, rfl⟩
  rw [← hd] at HT hdl D1 D2 D3
  clear hd
  by_cases h0 : d.size = 0
  · have HF := Lib.hid (NumPost.no (s := s) (w := w) (fun e => (hiff.1 e).1.1 (List.eq_nil_of_length_eq_zero (by omega))) (Kept.refl _ w))
    have hnil : (d.toList == []) = true := by rw [toList_nil h0]; rfl
    clear hiff hdl hsl D1 D2 D3 D4
    go_enter Tryz.func247, Tryz.ntmps247
    go_wp2_with fail
    refine HT.out.mono ?_
    rintro e w2 ⟨rfl, rfl⟩
    go_wp2_with fail
    go_ret2
    exact HF.out
  have hnil : (d.toList == []) = false := by rw [beq_eq_false_iff_ne]; exact toList_ne h0
  by_cases h9 : 9 < d.size
  · have HF := Lib.hid (NumPost.no (s := s) (w := w) (fun e => by have := (hiff.1 e).1.2; omega) (Kept.refl _ w))
    have h9d : decide ((9 : Int) < (d.size : Int)) = true := by simp; omega
    clear hiff hdl hsl D1 D2 D3 D4
    go_enter Tryz.func247, Tryz.ntmps247
    go_wp2_with fail
    refine HT.out.mono ?_
    rintro e w2 ⟨rfl, rfl⟩
    go_wp2_with fail
    go_ret2
    exact HF.out
  have h9d : decide ((9 : Int) < (d.size : Int)) = false := by simp; omega
  have hp : 0 < d.size := by omega
  by_cases h48 : d[0].toNat = 48 ∧ s.data.toList ≠ [48]
  · have HF := Lib.hid (NumPost.no (s := s) (w := w) (fun e => (hiff.1 e).2.1 ⟨(D3.out hp).2 h48.1, h48.2⟩) (Kept.refl _ w))
    have c1 : (((d[0].toNat : Nat) : Int) == 48) = true := by rw [h48.1]; rfl
    have c2 : (s.toList == [48]) = false := by rw [hsl]; simpa using h48.2
    clear hiff hdl hsl D1 D2 D3 D4 h48
    go_enter Tryz.func247, Tryz.ntmps247
    go_wp2_with fail
    refine HT.out.mono ?_
    rintro e w2 ⟨rfl, rfl⟩
    go_wp2_with fail
    go_ret2
    exact HF.out
  have hgood : ∀ (_ : ∀ (k : Nat) (hk : k < d.size), 48 ≤ d[k].toNat ∧ d[k].toNat ≤ 57), numOk s = true := fun h => hiff.2 ⟨⟨fun e => by rw [e] at hdl; exact h0 hdl, by omega⟩, fun e => h48 ⟨(D3.out hp).1 e.1, e.2⟩, D1.out h⟩
  have hat : ∀ (_ : ∀ (k : Nat) (hk : k < d.size), 48 ≤ d[k].toNat ∧ d[k].toNat ≤ 57), ∃ n, Lib.atoi s.data.toList = some n ∧ s.size ≤ 10 := fun h => by
    obtain ⟨n, h1, -, -, h4, -⟩ := D4.out (fun e => by rw [e] at hdl; exact h0 hdl) (by omega) (D1.out h)
    exact ⟨n, h1, h4⟩
  have HG := Lib.hid hgood
  have HA := Lib.hid hat
  have HNO := Lib.hid (fun (k : Nat) (hk : k < d.size) (h : ¬ (48 ≤ d[k].toNat ∧ d[k].toNat ≤ 57)) => NumPost.no (s := s) (w := w) (fun e => D2.out k hk h (hiff.1 e).2.2) (Kept.refl _ w))
  clear hgood hat hiff D1 D2 D3 D4 hdl
  by_cases h1 : d[0].toNat = 48
  · have c1 : (((d[0].toNat : Nat) : Int) == 48) = true := by rw [h1]; rfl
    have c2 : (s.toList == [48]) = true := by rw [hsl]; simpa using (fun e => h48 ⟨h1, e⟩ : ¬ ¬ s.data.toList = [48])
    clear h48 h1 hsl
    go_enter Tryz.func247, Tryz.ntmps247
    go_wp2_with fail
    refine HT.out.mono ?_
    rintro e w2 ⟨rfl, rfl⟩
    go_wp2_with fail
    go_loopw [7] (fun i wr => ∃ k : Nat, k ≤ d.size ∧ i = .int .i64 k ∧ (∀ (j : Nat) (hj : j < d.size), j < k → 48 ≤ d[j].toNat ∧ d[j].toNat ≤ 57) ∧ wr = w2) (fun i _ => d.size - (intOf i).toNat)
    case atStart => exact ⟨0, Nat.zero_le _, rfl, fun j _ h => absurd h (by omega), rfl⟩
    case round =>
      obtain ⟨k, hk, rfl, hdg, rfl⟩ := hrel
      by_cases hlt : k < d.size
      · by_cases hb1 : d[k].toNat < 48
        · have HF := Lib.hid (HNO.out k hlt (by omega))
          have e1 : decide (((d[k].toNat : Nat) : Int) < 48) = true := by simp; omega
          clear hdg HNO HA HG
          go_wp2_with fail
          go_ret2
          exact HF.out
        · have e1 : decide (((d[k].toNat : Nat) : Int) < 48) = false := by simp; omega
          by_cases hb2 : 57 < d[k].toNat
          · have HF := Lib.hid (HNO.out k hlt (by omega))
            have e2 : decide ((57 : Int) < ((d[k].toNat : Nat) : Int)) = true := by simp; omega
            clear hdg HNO HA HG
            go_wp2_with fail
            go_ret2
            exact HF.out
          · have e2 : decide ((57 : Int) < ((d[k].toNat : Nat) : Int)) = false := by simp; omega
            have HD := Lib.hid (fun (j : Nat) (hj : j < d.size) (h : j < k + 1) => (if e : j = k then (by subst e; omega) else hdg j hj (by omega) : 48 ≤ d[j].toNat ∧ d[j].toNat ≤ 57))
            clear hdg HNO HA HG
            go_wp2_with fail
            go_roundw
            case rel => exact ⟨k + 1, by omega, by go_num, HD.out, by first | rfl | trivial⟩
            case measure => simp [intOf]; omega
      · have hall : ∀ (j : Nat) (hj : j < d.size), 48 ≤ d[j].toNat ∧ d[j].toNat ≤ 57 := fun j hj => hdg j hj (by omega)
        have hok := HG.out hall
        obtain ⟨n, hn, hsz⟩ := HA.out hall
        have HAT := Lib.hid (fun (wx : World) => Tryz.strconv_Atoi s n (by omega) hn wx)
        have hnf : numF s = some n := by rw [numF, if_pos hok]; exact hn
        have HNF := Lib.hid hnf
        clear hall hok hn hsz hnf hdg HNO HA HG
        go_wp2_with fail
        refine (HAT.out _).mono ?_
        rintro e w3 ⟨rfl, t, rfl⟩
        go_wp2_with fail
        go_quiet (fail)
        go_wp2_with fail
        go_ret2
        exact ⟨n, true, rfl, (All.bytesWorld _ _ _).then_drewN _, HNF.out⟩
  · have c1 : (((d[0].toNat : Nat) : Int) == 48) = false := by rw [beq_eq_false_iff_ne]; omega
    clear h48 h1 hsl
    go_enter Tryz.func247, Tryz.ntmps247
    go_wp2_with fail
    refine HT.out.mono ?_
    rintro e w2 ⟨rfl, rfl⟩
    go_wp2_with fail
    go_loopw [7] (fun i wr => ∃ k : Nat, k ≤ d.size ∧ i = .int .i64 k ∧ (∀ (j : Nat) (hj : j < d.size), j < k → 48 ≤ d[j].toNat ∧ d[j].toNat ≤ 57) ∧ wr = w2) (fun i _ => d.size - (intOf i).toNat)
    case atStart => exact ⟨0, Nat.zero_le _, rfl, fun j _ h => absurd h (by omega), rfl⟩
    case round =>
      obtain ⟨k, hk, rfl, hdg, rfl⟩ := hrel
      by_cases hlt : k < d.size
      · by_cases hb1 : d[k].toNat < 48
        · have HF := Lib.hid (HNO.out k hlt (by omega))
          have e1 : decide (((d[k].toNat : Nat) : Int) < 48) = true := by simp; omega
          clear hdg HNO HA HG
          go_wp2_with fail
          go_ret2
          exact HF.out
        · have e1 : decide (((d[k].toNat : Nat) : Int) < 48) = false := by simp; omega
          by_cases hb2 : 57 < d[k].toNat
          · have HF := Lib.hid (HNO.out k hlt (by omega))
            have e2 : decide ((57 : Int) < ((d[k].toNat : Nat) : Int)) = true := by simp; omega
            clear hdg HNO HA HG
            go_wp2_with fail
            go_ret2
            exact HF.out
          · have e2 : decide ((57 : Int) < ((d[k].toNat : Nat) : Int)) = false := by simp; omega
            have HD := Lib.hid (fun (j : Nat) (hj : j < d.size) (h : j < k + 1) => (if e : j = k then (by subst e; omega) else hdg j hj (by omega) : 48 ≤ d[j].toNat ∧ d[j].toNat ≤ 57))
            clear hdg HNO HA HG
            go_wp2_with fail
            go_roundw
            case rel => exact ⟨k + 1, by omega, by go_num, HD.out, by first | rfl | trivial⟩
            case measure => simp [intOf]; omega
      · have hall : ∀ (j : Nat) (hj : j < d.size), 48 ≤ d[j].toNat ∧ d[j].toNat ≤ 57 := fun j hj => hdg j hj (by omega)
        have hok := HG.out hall
        obtain ⟨n, hn, hsz⟩ := HA.out hall
        have HAT := Lib.hid (fun (wx : World) => Tryz.strconv_Atoi s n (by omega) hn wx)
        have hnf : numF s = some n := by rw [numF, if_pos hok]; exact hn
        have HNF := Lib.hid hnf
        clear hall hok hn hsz hnf hdg HNO HA HG
        go_wp2_with fail
        refine (HAT.out _).mono ?_
        rintro e w3 ⟨rfl, t, rfl⟩
        go_wp2_with fail
        go_quiet (fail)
        go_wp2_with fail
        go_ret2
        exact ⟨n, true, rfl, (All.bytesWorld _ _ _).then_drewN _, HNF.out⟩
theorem small_any (s : ByteArray) (w : World) : Calls Tryz.prog 189 #[.string s] w (NumPost s w) := by
  have HN := Lib.hid (number_any s w)
  go_enter Tryz.func189, Tryz.ntmps189
  go_wp2_with fail
  refine HN.out.mono ?_
  rintro e w2 ⟨v, ok, rfl, hk2, hq⟩
  have hf := Lib.hid hq
  clear hq
  go_wp2_with fail
  go_ret2
  exact ⟨v, ok, rfl, hk2, hf.out⟩
theorem ended_iff {s : ByteArray} {n : Nat} {x : ByteArray} (hn : (rowsB nlB s).length = n + 1) (hx : (rowsB nlB s)[n]? = some x) : endedOf s = decide (x = emptB) := by
  have h : (rowsB nlB s).getLast? = some x := by rw [List.getLast?_eq_getElem?, hn]; exact hx
  rw [endedOf, h]
  simp
theorem linesT_any (s : ByteArray) (n m : Nat) (w : World) (hs : s.size ≤ 900000) (hn : (rowsB nlB s).length = n) (hm : (linesOf s).length = m) (hg : Glob w) :
    Calls Tryz.prog 149 #[.string s] w fun e w' => e = .returned (.tuple #[.slice (some ⟨w.heap.size, 0, none⟩) m n, .bool (endedOf s)]) ∧ w' = w.alloc (.cells ((rowsB nlB s).map Value.string).toArray 9) := by
  obtain ⟨mx, hmx⟩ := hg.most
  have hsp := Lib.hid (Tryz.strings_Split s nlB mx w (by omega) hmx (by decide))
  have hln := rowsB_len nlB s (by decide)
  rw [hn] at hln
  rw [← hln] at hsp
  have hle := rowsB_le nlB s (by decide)
  rw [hn] at hle
  have hsp2 := Lib.hid (show Calls Tryz.prog 92 #[.string s, .string nlB] w fun e w' => e = .returned (.slice (some ⟨w.heap.size, 0, none⟩) n n) ∧ w' = w.alloc (.cells ((rowsB nlB s).map Value.string).toArray 9) from hsp.out)
  obtain ⟨j, rfl⟩ : ∃ j, n = j + 1 := ⟨n - 1, by omega⟩
  obtain ⟨x, hx⟩ : ∃ x, (rowsB nlB s)[j]? = some x := ⟨_, List.getElem?_eq_getElem (by omega)⟩
  have hend := ended_iff hn hx
  obtain ⟨ob, hob⟩ : ∃ o : Obj, o = .cells ((rowsB nlB s).map Value.string).toArray 9 := ⟨_, rfl⟩
  have hblk := heap_at w ob _ rfl
  have c1 : (w.alloc ob).cell? ⟨w.heap.size, j, none⟩ = some (.string x) := cell_at (v := .string x) (i := j) (by rw [hob]; rw [hob] at hblk; exact hblk) (by simp [hx])
  rw [← hob] at hsp2 ⊢
  have hwr : IntKind.i64.wrap ((j : Int) + 1 - 1) = (j : Int) := by rw [show (j : Int) + 1 - 1 = j by omega]; exact IntWalk.i64_in _ (by omega)
  by_cases he : x = emptB
  · have hj : m = j := by rw [← hm, linesOf, hend, if_pos (by simp [he]), List.length_dropLast, hn]; rfl
    rw [hend, show decide (x = emptB) = true by simp [he], hj]
    subst he
    change (w.alloc ob).cell? ⟨w.heap.size, j, none⟩ = some (.string ⟨#[]⟩) at c1
    have hjs : j ≤ 1000000 := by omega
    clear hmx hblk hob hx hend hj hm hn hln hsp hg hle
    go_enter Tryz.func149, Tryz.ntmps149
    go_wp2_with fail
    refine hsp2.out.mono ?_
    rintro e w2 ⟨rfl, rfl⟩
    go_wp2_with fail
    go_ret2
    exact ⟨rfl, rfl⟩
  · have hj : m = j + 1 := by rw [← hm, linesOf, hend, if_neg (by simp [he]), hn]
    rw [hend, show decide (x = emptB) = false by simp [he], hj]
    have hd : (x.toList == []) = false := by
      rw [beq_eq_false_iff_ne]; exact toList_ne (fun h => he (empty_data h))
    have hjs : j ≤ 1000000 := by omega
    clear hmx hblk hob hx hend hj hm hn hln hsp hg hle he
    go_enter Tryz.func149, Tryz.ntmps149
    go_wp2_with fail
    refine hsp2.out.mono ?_
    rintro e w2 ⟨rfl, rfl⟩
    go_wp2_with fail
    go_ret2
    exact ⟨rfl, rfl⟩

end Go.Proofs.YtgobnlgmbplggaaGreatDoor
