/- The generator homes. -/
import Derived.Test.YtgobnlgmbplggaaGreatDoorD1
import Derived.Test.YtgobnlgmbplggaaGreatDoorU0
import Derived.Deep.CutBlock
import Derived.Deep.DeepCutAuto
namespace Go.Proofs.YtgobnlgmbplggaaGreatDoor
open Go.RowKit

/-- A field of an element of a known block. -/
def PFk (B : Nat) (Ns : Nat → Nat) (kd j K : Nat) (v : Value) (w : World) : Prop := ∃ b i m, v = .pointer (some ⟨b, i * K + j, none⟩) ∧ i < m ∧ TB Θw B Ns w b kd m
theorem PFk.stays {B : Nat} {Ns : Nat → Nat} (kd j K : Nat) : Stays (fun w w' => Goes Θw B Ns w Ns w') (PFk B Ns kd j K) := fun _ _ _ hg ⟨b, i, m, h1, h2, h3⟩ => ⟨b, i, m, h1, h2, hg.tb _ _ _ h3⟩
theorem inv2 {B : Nat} {N : Nat → Nat} {w : World} {vs : List Value} (h : GdL Θw B N w (Θw.fds 2) vs) : ∃ x0 x1, vs = [.string x0, .int .i64 x1] := by
  rcases vs with _ | ⟨v0, _ | ⟨v1, _ | ⟨v2, x⟩⟩⟩
  · exact h.elim
  · exact h.2.elim
  · obtain ⟨⟨_, rfl, -⟩, ⟨_, rfl, -⟩, -⟩ := h
    exact ⟨_, _, rfl⟩
  · exact h.2.2.elim
theorem inv3 {B : Nat} {N : Nat → Nat} {w : World} {vs : List Value} (h : GdL Θw B N w (Θw.fds 3) vs) : ∃ x0 x1 x2, vs = [.string x0, .int .i64 x1, .int .i64 x2] := by
  rcases vs with _ | ⟨v0, _ | ⟨v1, _ | ⟨v2, _ | ⟨v3, x⟩⟩⟩⟩
  · exact h.elim
  · exact h.2.elim
  · exact h.2.2.elim
  · obtain ⟨⟨_, rfl, -⟩, ⟨_, rfl, -⟩, ⟨_, rfl, -⟩, -⟩ := h
    exact ⟨_, _, _, rfl⟩
  · exact h.2.2.2.elim
theorem inv4 {B : Nat} {N : Nat → Nat} {w : World} {vs : List Value} (h : GdL Θw B N w (Θw.fds 4) vs) : ∃ x0 x1, vs = [.string x0, .string x1] := by
  rcases vs with _ | ⟨v0, _ | ⟨v1, _ | ⟨v2, x⟩⟩⟩
  · exact h.elim
  · exact h.2.elim
  · obtain ⟨⟨_, rfl, -⟩, ⟨_, rfl, -⟩, -⟩ := h
    exact ⟨_, _, rfl⟩
  · exact h.2.2.elim
theorem inv6 {B : Nat} {N : Nat → Nat} {w : World} {vs : List Value} (h : GdL Θw B N w (Θw.fds 6) vs) : ∃ x0 x1 y1 z1, vs = [.int .i64 x0, .slice x1 y1 z1] := by
  rcases vs with _ | ⟨v0, _ | ⟨v1, _ | ⟨v2, x⟩⟩⟩
  · exact h.elim
  · exact h.2.elim
  · obtain ⟨⟨_, rfl, -⟩, hL, -⟩ := h
    obtain ⟨a, n, c, rfl, -⟩ := Gd.slice hL
    exact ⟨_, _, _, _, rfl⟩
  · exact h.2.2.elim
/-- A row of so many. -/
def PGn (B : Nat) (Ns : Nat → Nat) (kd len : Nat) (v : Value) (w : World) : Prop := ∃ a c, v = .slice a len c ∧ Gd Θw B Ns w (.sl kd) (.slice a len c)
theorem PGn.stays {B : Nat} {Ns : Nat → Nat} (kd len : Nat) : Stays (fun w w' => Goes Θw B Ns w Ns w') (PGn B Ns kd len) := fun _ _ _ hg ⟨a, c, h1, h2⟩ => ⟨a, c, h1, h2.goes hg⟩
/-- What a generator leaves of a world under way. -/
structure GenW (σ : St) (B : Nat) (N N' : Nat → Nat) (n c : Nat) (w w' : World) (m : Nat) : Prop where
  st : Str σ w' m
  lo : n ≤ m
  hi : m ≤ n + c
  kp : Kept (fun b => b < B ∧ b ≠ σ.b) w w'
  goes : Goes Θw B N w N' w'
/-- Rows of strings that were there are as they were. -/
def KSt (s : Nat) (w w' : World) : Prop := Kept (fun b => b ≠ s ∧ ∃ c fz, w.heap[b]? = some (.cells c 9 fz)) w w'
theorem KSt.refl (s : Nat) (w : World) : KSt s w w := Kept.refl _ _
theorem KSt.next {s : Nat} {w w' w'' : World} {G : Nat → Prop} (h : KSt s w w') (k : Kept G w' w'') (hG : ∀ b, b ≠ s → (∃ c fz, w'.heap[b]? = some (.cells c 9 fz)) → G b) : KSt s w w'' :=
  h.trans2 k fun i _ ⟨h1, c, fz, h2⟩ => hG i h1 ⟨c, fz, h.heap h2 ⟨h1, c, fz, h2⟩⟩
theorem KSt.all {s : Nat} {w w' w'' : World} (h : KSt s w w') (k : All w' w'') : KSt s w w'' := h.next k fun _ _ _ => trivial
theorem KSt.but {s : Nat} {w w' w'' : World} (h : KSt s w w') (k : But s w' w'') : KSt s w w'' := h.next k fun _ hb _ => hb
theorem KSt.low {s B : Nat} {w w' w'' : World} (h : KSt s w w') (k : Kept (LowS B w') w' w'') : KSt s w w'' := h.next k fun _ _ hb => Or.inr hb
theorem KSt.at {s B g k m : Nat} {N : Nat → Nat} {w w' w'' : World} (h : KSt s w w') (hk : Kept (fun b => b ≠ g) w' w'') (hb : TB Θw B N w' g k m) (hne : wTy k ≠ 9) : KSt s w w'' := h.next hk fun _ _ hs => LowS.ne (Or.inr hs) hb hne
theorem KSt.app {s B k n0 m0 : Nat} {N N' : Nat → Nat} {a0 : Option Addr} {c0 : Nat} {v' : Value} {w w' w'' : World} (h : KSt s w w') (hv : Gd Θw B N w' (.sl k) (.slice a0 n0 c0)) (hA : AppTB Θw B N N' w' k a0 c0 n0 m0 v' w'') (hne : wTy k ≠ 9) : KSt s w w'' :=
  h.next hA.kept fun b _ hs hc ad ha => by
    subst ha
    rcases hv with ⟨a, e⟩ | ⟨g, n, cap, e, hg, -⟩
    · cases e; omega
    · cases e
      exact LowS.ne (Or.inr hs) hg hne
theorem cmpHome_ok (B : Nat) (N : Nat → Nat) : CmpK B N 3 IsInt 142 #[] := by
  intro x y wx hx hy
  rw [Array.append_empty]
  rcases x with _ | ⟨v0, _ | ⟨v1, _ | ⟨v2, _ | ⟨v3, x⟩⟩⟩⟩
  · exact hx.elim
  · exact hx.2.elim
  · exact hx.2.2.elim
  · rcases y with _ | ⟨u0, _ | ⟨u1, _ | ⟨u2, _ | ⟨u3, y⟩⟩⟩⟩
    · exact hy.elim
    · exact hy.2.elim
    · exact hy.2.2.elim
    · obtain ⟨⟨s, rfl, hs⟩, ⟨z, rfl, hz⟩, ⟨u, rfl, hu⟩, -⟩ := hx
      obtain ⟨⟨s', rfl, hs'⟩, ⟨z', rfl, hz'⟩, ⟨u', rfl, hu'⟩, -⟩ := hy
      refine (homeOrder_any ⟨s, z, u⟩ ⟨s', z', u'⟩ wx ⟨Nat.le_trans hs (by decide), hz, hu⟩ ⟨Nat.le_trans hs' (by decide), hz', hu'⟩).mono ?_
      rintro e w' ⟨rfl, h⟩
      exact ⟨⟨_, rfl, _, rfl⟩, h.1⟩
    · exact hy.2.2.2.elim
  · exact hx.2.2.2.elim
set_option maxRecDepth 100000 in
set_option maxHeartbeats 12800000 in
theorem homes_any (σ : St) (n B : Nat) (N : Nat → Nat) (a0 : Option Addr) (l0 c0 : Nat) (w0 : World) (hs : Str σ w0 n) (hn : n ≤ 4611686018427300000) (hσ : σ.b < B) (hB : B ≤ w0.heap.size) (hg : Gd Θw B N w0 (.sl 1) (.slice a0 l0 c0)) (hlo : ∀ x, 8 ≤ N x) (hhi : ∀ x, N x ≤ 1000) :
    Calls Tryz.prog 119 #[.pointer (some ⟨σ.b, 0, none⟩), .slice a0 l0 c0] w0 fun e w' => ∃ v m, e = .returned v ∧ Gd Θw B N w' (.sl 3) v ∧ GenW σ B N N n 800 w0 w' m ∧ KSt σ.b w0 w' := by
  have HG := Lib.hid hg
  have HB := Lib.hid hB
  have hl := hs.lt
  have hl0 : l0 ≤ 1000 := by
    obtain ⟨a, n', c, e, h1, -⟩ := hg.slice
    cases e
    have := hhi 1
    omega
  clear hg
  go_enter Tryz.func119, Tryz.ntmps119
  go_wp2_with fail
  refine (pick_any σ n _ 5 5 [0, 1, 1, 2, 3] _ (hs.keep (Kept.alloc _ _ _)) (by omega) (Sl.lit_ints _ (heap_at w0 _ _ rfl) rfl (by omega)) (by omega) (by omega)).mono ?_
  rintro e w1 ⟨v, n1, rfl, ⟨r, rfl, hr⟩, hA1, hB1, hs1, hb1⟩
  obtain ⟨q, rfl, hq⟩ : ∃ q : Nat, r = (q : Int) ∧ q ≤ 3 := by
    simp only [List.mem_cons, List.not_mem_nil, or_false] at hr
    rcases hr with rfl | rfl | rfl | rfl | rfl
    · exact ⟨0, rfl, by decide⟩
    · exact ⟨1, rfl, by decide⟩
    · exact ⟨1, rfl, by decide⟩
    · exact ⟨2, rfl, by decide⟩
    · exact ⟨3, rfl, by decide⟩
  have HK1 := Lib.hid (show But σ.b w0 w1 from (Kept.all (Kept.alloc _ _ _)).trans hb1)
  have HW1 := Lib.hid (show GenW σ B N N n 1 w0 w1 n1 from ⟨hs1, hA1, hB1, HK1.out.mono (fun _ h => h.2), Goes.but HK1.out hσ⟩)
  clear hr hb1 hs1 hs
  go_upto_block 0 with fail
  go_cut [5] (fun v wx => ∃ (a : Option Addr) (k c m : Nat), v = .slice a k c ∧ k ≤ 3 ∧ Gd Θw B N wx (.sl 3) (.slice a k c) ∧ GenW σ B N N n 700 w0 wx m ∧ KSt σ.b w0 wx)
  case first =>
    go_wp2_with fail
    go_loopw [5, 11] (fun v i wr => ∃ (k : Nat) (a : Option Addr) (j c m : Nat), k ≤ q ∧ i = .int .i64 k ∧ v = .slice a j c ∧ j ≤ k ∧ Gd Θw B N wr (.sl 3) (.slice a j c) ∧ GenW σ B N N n (1 + 200 * k) w0 wr m ∧ KSt σ.b w0 wr) (fun _ i _ => q - (intOf i).toNat)
    case atStart => exact ⟨0, none, 0, 0, n1, Nat.zero_le _, rfl, rfl, Nat.le_refl _, Or.inl ⟨_, rfl⟩, HW1.out, (KSt.refl _ _).but HK1.out⟩
    case round =>
      obtain ⟨k, va, vn, vc, m0, hk, rfl, rfl, hjk, hgd, hgen, hkst⟩ := hrel
      obtain ⟨wo, rfl⟩ : ∃ z : World, z = wr := ⟨_, rfl⟩
      have HGD := Lib.hid hgd
      have HGN := Lib.hid hgen
      have HKS := Lib.hid hkst
      clear hgd hgen hkst
      by_cases hlt : k < q
      case neg =>
        have hd : decide ((k : Int) < (q : Int)) = false := by simp; omega
        have HF := Lib.hid (show GenW σ B N N n 700 w0 wo m0 from ⟨HGN.out.st, HGN.out.lo, by have := HGN.out.hi; omega, HGN.out.kp, HGN.out.goes⟩)
        go_wp2_with fail
        go_meet
        exact ⟨va, vn, vc, m0, rfl, by omega, HGD.out, HF.out, HKS.out⟩
      by_cases hl00 : l0 = 0
      · have hd0 : ((l0 : Int) == 0) = true := by rw [hl00]; rfl
        have HF := Lib.hid (show GenW σ B N N n 700 w0 wo m0 from ⟨HGN.out.st, HGN.out.lo, by have := HGN.out.hi; omega, HGN.out.kp, HGN.out.goes⟩)
        go_wp2_with fail
        go_meet
        exact ⟨va, vn, vc, m0, rfl, by omega, HGD.out, HF.out, HKS.out⟩
      have hd0 : ((l0 : Int) == 0) = false := by rw [beq_eq_false_iff_ne]; omega
      have hst := HGN.out.st
      have hm0 : m0 ≤ n + 601 := by have := HGN.out.hi; omega
      have hlo0 := hst.lt
      have hd : decide ((k : Int) < (q : Int)) = true := by simp; omega
      go_wp2_with fail
      refine (pick_any σ m0 _ 6 6 [0, 0, 30, 50, 100, 200] _ (hst.keep (Kept.alloc _ _ _)) (by omega) (Sl.lit_ints _ (heap_at wo _ _ rfl) rfl (by omega)) (by omega) (by omega)).mono ?_
      rintro e w2 ⟨v, n2, rfl, ⟨fr, rfl, hr⟩, hA2, hB2, HST', hb2⟩
      have hfr : 0 ≤ fr ∧ fr ≤ 200 := by
        simp only [List.mem_cons, List.not_mem_nil, or_false] at hr
        rcases hr with rfl | rfl | rfl | rfl | rfl | rfl <;> decide
      obtain ⟨hf0, hf1⟩ := hfr
      have HST := Lib.hid HST'
      have HK2 := Lib.hid (show But σ.b wo w2 from (Kept.all (Kept.alloc _ _ _)).trans hb2)
      have HG2 := Lib.hid (HGD.out.goes (Goes.but HK2.out hσ))
      have HP2 := Lib.hid (HG.out.goes (HGN.out.goes.trans (Goes.but HK2.out hσ)))
      obtain ⟨pa, pn, pc, epp, hpN, hpc, hptb⟩ := HP2.out.slice
      cases epp
      obtain ⟨pb, hpa, htbp⟩ := hptb (by omega)
      subst hpa
      have HPB := Lib.hid htbp
      have HLT := Lib.hid (show B ≤ w2.heap.size from Nat.le_trans HB.out (Nat.le_trans HGN.out.kp.size HK2.out.size))
      have hpn1 : 1 ≤ (l0 : Int) := by omega
      have hpn2 : (l0 : Int) ≤ 9223372036854775807 := by omega
      have hn2 : n2 ≤ n + 602 := by omega
      clear hr hb2 hst HST' htbp hptb hpN
      go_upto_region 6 with fail
      refine wp_region_ty 18 (by kernel_rfl) (by kernel_rfl) (RT Θw σ B N N (fun w => KSt σ.b w0 w) w2 n2 17 0)
        (DL [QIs (.slice va vn vc), QIs (.slice (some ⟨pb, 0, none⟩) l0 c0), QIs (.pointer (some ⟨σ.b, 0, none⟩)), QIs (.slice (some ⟨pb, 0, none⟩) l0 c0), QIs (.int .i64 (l0 : Int)), PR (0) (((l0 : Nat) : Int) - 1), PE Θw B N 1, PFk B N 1 0 2, PG Θw B N .s, QIs (.int .i64 fr), QIs (.int .i64 fr), QIs (.pointer (some ⟨σ.b, 0, none⟩)), PT Θw B N 11 5, PR (0) (3000), PR (0) (3200), PA Θw B N 3, PT Θw B N 3 1, PGn B N 3 (vn + 1)]) (fun w w' => Goes Θw B N w N w')
        (DL.keep (by simp only [List.forall_mem_cons, List.not_mem_nil, false_implies, implies_true, and_true]; exact ⟨QIs.stays' _, QIs.stays' _, QIs.stays' _, QIs.stays' _, QIs.stays' _, PR.stays _ _, PE.stays _, PFk.stays _ _ _, PG.stays _, QIs.stays' _, QIs.stays' _, QIs.stays' _, PT.stays _ _, PR.stays _ _, PR.stays _ _, PA.stays _, PT.stays _ _, PGn.stays _ _⟩)) ?_ ?_ ?_
      · exact ⟨⟨n2, HST.out.keep (Kept.drew _ _), Nat.le_refl _, by omega⟩, Kept.drew _ _, HLT.out, by rw [if_neg (by decide)]; exact Goes.all (Kept.drew _ _), fun h => (by cases h), (HKS.out.but HK2.out).all (Kept.drew _ _)⟩
      · intro i o ho hi kq L a' wx hkq hrt hL hdf hts hoth hld hdeps
        have hkz : kq < 18 := hkq
        have hz : i = 0 ∨ i = 1 ∨ i = 2 ∨ i = 3 ∨ i = 4 ∨ i = 5 ∨ i = 6 ∨ i = 7 ∨ i = 8 ∨ i = 9 ∨ i = 10 ∨ i = 11 ∨ i = 12 ∨ i = 13 ∨ i = 14 ∨ i = 15 ∨ i = 16 ∨ i = 17 := by have : i < 18 := hi; omega
        rcases hz with rfl | rfl | rfl | rfl | rfl | rfl | rfl | rfl | rfl | rfl | rfl | rfl | rfl | rfl | rfl | rfl | rfl | rfl
        · obtain rfl := Option.some.inj ho
          have e : a'.tmps.getD 5 undef = .slice va vn vc := tmp_of ((hoth 5 (by decide)).trans rfl)
          clear hoth hdeps hdf hts ho hld
          refine wp_via (fun K' hK => ?_)
          have HK := Lib.hid hK
          clear hK
          go_simp
          exact HK.out _ _ ⟨_, rfl, hrt.same (by decide), Goes.refl _ _ _ _, fun _ => rfl⟩
        · obtain rfl := Option.some.inj ho
          have e : a'.tmps.getD 1 undef = .slice (some ⟨pb, 0, none⟩) l0 c0 := tmp_of ((hoth 1 (by decide)).trans rfl)
          clear hoth hdeps hdf hts ho hld
          refine wp_via (fun K' hK => ?_)
          have HK := Lib.hid hK
          clear hK
          go_simp
          exact HK.out _ _ ⟨_, rfl, hrt.same (by decide), Goes.refl _ _ _ _, fun _ => rfl⟩
        · obtain rfl := Option.some.inj ho
          have e : a'.tmps.getD 0 undef = .pointer (some ⟨σ.b, 0, none⟩) := tmp_of ((hoth 0 (by decide)).trans rfl)
          clear hoth hdeps hdf hts ho hld
          refine wp_via (fun K' hK => ?_)
          have HK := Lib.hid hK
          clear hK
          go_simp
          exact HK.out _ _ ⟨_, rfl, hrt.same (by decide), Goes.refl _ _ _ _, fun _ => rfl⟩
        · obtain rfl := Option.some.inj ho
          have e : a'.tmps.getD 1 undef = .slice (some ⟨pb, 0, none⟩) l0 c0 := tmp_of ((hoth 1 (by decide)).trans rfl)
          clear hoth hdeps hdf hts ho hld
          refine wp_via (fun K' hK => ?_)
          have HK := Lib.hid hK
          clear hK
          go_simp
          exact HK.out _ _ ⟨_, rfl, hrt.same (by decide), Goes.refl _ _ _ _, fun _ => rfl⟩
        · obtain rfl := Option.some.inj ho
          have e : a'.tmps.getD 22 undef = .slice (some ⟨pb, 0, none⟩) l0 c0 := hdeps 3 (by decide) 22 rfl
          clear hoth hdeps hdf hts ho hld
          refine wp_via (fun K' hK => ?_)
          have HK := Lib.hid hK
          clear hK
          go_simp
          exact HK.out _ _ ⟨_, rfl, hrt.same (by decide), Goes.refl _ _ _ _, fun _ => rfl⟩
        · obtain rfl := Option.some.inj ho
          have e0 : a'.tmps.getD 21 undef = .pointer (some ⟨σ.b, 0, none⟩) := hdeps 2 (by decide) 21 rfl
          have e1 : a'.tmps.getD 23 undef = .int .i64 (l0 : Int) := hdeps 4 (by decide) 23 rfl
          obtain ⟨m, hst, hm1, hm2⟩ := hrt.st
          clear hoth hdeps hdf hts ho hld
          refine wp_via (fun K' hK => ?_)
          have HK := Lib.hid hK
          clear hK
          go_simp
          refine (next_any σ m l0 wx hst (by omega) (by omega) (by omega)).mono ?_
          rintro e w2 ⟨v, m2, rfl, ⟨r, rfl, hr1, hr2⟩, hA, hB, hs2, hb2⟩
          exact HK.out _ _ ⟨_, rfl, hrt.call (by decide) hm1 hm2 hA hB (by decide) hs2 hb2 hσ (hrt.ex.but hb2), Goes.but hb2 hσ, fun _ => ⟨r, rfl, by omega, by omega⟩⟩
        · obtain rfl := Option.some.inj ho
          have e : a'.tmps.getD 20 undef = .slice (some ⟨pb, 0, none⟩) l0 c0 := hdeps 1 (by decide) 20 rfl
          obtain ⟨xi, x, xl, xh⟩ : ∃ z : Int, a'.tmps.getD 24 undef = .int .i64 z ∧ 0 ≤ z ∧ z ≤ ((l0 : Nat) : Int) - 1 := hdeps 5 (by decide) 24 rfl
          obtain ⟨xk, rfl⟩ := Int.eq_ofNat_of_zero_le xl
          have x2 : (xk : Int) < (l0 : Int) := by omega
          have x3 : (0 : Int) ≤ (xk : Int) := by omega
          clear hoth hdeps hdf hts ho hld
          refine wp_via (fun K' hK => ?_)
          have HK := Lib.hid hK
          clear hK
          go_simp
          exact HK.out _ _ ⟨_, rfl, hrt.same (by decide), Goes.refl _ _ _ _, fun _ => ⟨_, xk, _, rfl, by have := hpc; omega, (hrt.goes (fun _ => Nat.le_refl _)).tb _ _ _ HPB.out⟩⟩
        · obtain rfl := Option.some.inj ho
          obtain ⟨eb, ei, em, e, el, et⟩ : ∃ b i m, a'.tmps.getD 25 undef = .pointer (some ⟨b, i * 2, none⟩) ∧ i < m ∧ TB Θw B N wx b 1 m := hdeps 6 (by decide) 25 rfl
          clear hoth hdeps hdf hts ho hld
          refine wp_via (fun K' hK => ?_)
          have HK := Lib.hid hK
          clear hK
          go_simp
          exact HK.out _ _ ⟨_, rfl, hrt.same (by decide), Goes.refl _ _ _ _, fun _ => ⟨_, _, _, rfl, el, et⟩⟩
        · obtain rfl := Option.some.inj ho
          obtain ⟨eb, ei, em, e, el, et⟩ : ∃ b i m, a'.tmps.getD 26 undef = .pointer (some ⟨b, i * 2, none⟩) ∧ i < m ∧ TB Θw B N wx b 1 m := hdeps 7 (by decide) 26 rfl
          obtain ⟨s0, c0, z0⟩ := et.ldS (i := ei) (j := 0) (o := ei * 2) el rfl rfl
          clear hoth hdeps hdf hts ho hld
          refine wp_via (fun K' hK => ?_)
          have HK := Lib.hid hK
          clear hK
          go_simp
          exact HK.out _ _ ⟨_, rfl, hrt.same (by decide), Goes.refl _ _ _ _, fun _ => ⟨_, rfl, z0⟩⟩
        · obtain rfl := Option.some.inj ho
          have e : a'.tmps.getD 6 undef = .int .i64 fr := tmp_of ((hoth 6 (by decide)).trans rfl)
          clear hoth hdeps hdf hts ho hld
          refine wp_via (fun K' hK => ?_)
          have HK := Lib.hid hK
          clear hK
          go_simp
          exact HK.out _ _ ⟨_, rfl, hrt.same (by decide), Goes.refl _ _ _ _, fun _ => rfl⟩
        · obtain rfl := Option.some.inj ho
          have e : a'.tmps.getD 6 undef = .int .i64 fr := tmp_of ((hoth 6 (by decide)).trans rfl)
          clear hoth hdeps hdf hts ho hld
          refine wp_via (fun K' hK => ?_)
          have HK := Lib.hid hK
          clear hK
          go_simp
          exact HK.out _ _ ⟨_, rfl, hrt.same (by decide), Goes.refl _ _ _ _, fun _ => rfl⟩
        · obtain rfl := Option.some.inj ho
          have e : a'.tmps.getD 0 undef = .pointer (some ⟨σ.b, 0, none⟩) := tmp_of ((hoth 0 (by decide)).trans rfl)
          clear hoth hdeps hdf hts ho hld
          refine wp_via (fun K' hK => ?_)
          have HK := Lib.hid hK
          clear hK
          go_simp
          exact HK.out _ _ ⟨_, rfl, hrt.same (by decide), Goes.refl _ _ _ _, fun _ => rfl⟩
        · obtain rfl := Option.some.inj ho
          clear hoth hdeps hdf hts ho hld
          refine wp_via (fun K' hK => ?_)
          have HK := Lib.hid hK
          clear hK
          go_simp
          exact HK.out _ _ ⟨_, rfl, hrt.all (by decide) (Kept.alloc _ _ _) hσ (hrt.ex.all (Kept.alloc _ _ _)), Goes.all (Kept.alloc _ _ _), fun _ => ⟨_, rfl, TB.litN (kd := 11) (vs := [.int .i64 1, .int .i64 20, .int .i64 50, .int .i64 100, .int .i64 3000]) hrt.lt rfl rfl ⟨⟨_, rfl, by decide, by decide⟩, ⟨_, rfl, by decide, by decide⟩, ⟨_, rfl, by decide, by decide⟩, ⟨_, rfl, by decide, by decide⟩, ⟨_, rfl, by decide, by decide⟩, trivial⟩⟩⟩
        · obtain rfl := Option.some.inj ho
          have e0 : a'.tmps.getD 30 undef = .pointer (some ⟨σ.b, 0, none⟩) := hdeps 11 (by decide) 30 rfl
          obtain ⟨e1b, e1, e1t⟩ : ∃ g, a'.tmps.getD 31 undef = .slice (some ⟨g, 0, none⟩) 5 5 ∧ TB Θw B N wx g 11 5 := hdeps 12 (by decide) 31 rfl
          obtain ⟨m, hst, hm1, hm2⟩ := hrt.st
          clear hoth hdeps hdf hts ho hld
          refine wp_via (fun K' hK => ?_)
          have HK := Lib.hid hK
          clear hK
          go_simp
          refine (pickR_any hst (by omega) hσ e1t rfl (by decide) (by decide)).mono ?_
          rintro e w2 ⟨v, m2, rfl, ⟨r, rfl, hr⟩, hA, hB, hs2, hb2⟩
          exact HK.out _ _ ⟨_, rfl, hrt.call (by decide) hm1 hm2 hA hB (by decide) hs2 hb2 hσ (hrt.ex.but hb2), Goes.but hb2 hσ, fun _ => ⟨r, rfl, hr⟩⟩
        · obtain rfl := Option.some.inj ho
          have e : a'.tmps.getD 29 undef = .int .i64 fr := hdeps 10 (by decide) 29 rfl
          obtain ⟨xi, x, xl, xh⟩ : ∃ z : Int, a'.tmps.getD 32 undef = .int .i64 z ∧ 0 ≤ z ∧ z ≤ 3000 := hdeps 13 (by decide) 32 rfl
          have hw9 : IntKind.i64.wrap (fr + xi) = fr + xi := IntWalk.i64_in _ (by omega)
          clear hoth hdeps hdf hts ho hld
          refine wp_via (fun K' hK => ?_)
          have HK := Lib.hid hK
          clear hK
          go_simp
          exact HK.out _ _ ⟨_, rfl, hrt.same (by decide), Goes.refl _ _ _ _, fun _ => ⟨_, rfl, by omega, by omega⟩⟩
        · obtain rfl := Option.some.inj ho
          obtain ⟨e0s, e0, e0z⟩ : ∃ s : ByteArray, a'.tmps.getD 27 undef = .string s ∧ s.size ≤ 200 := hdeps 8 (by decide) 27 rfl
          have e0q : a'.tmps[27]?.getD undef = .string e0s := by rw [← Array.getD_eq_getD_getElem?]; exact e0
          have e1 : a'.tmps.getD 28 undef = .int .i64 fr := hdeps 9 (by decide) 28 rfl
          have e1q : a'.tmps[28]?.getD undef = .int .i64 fr := by rw [← Array.getD_eq_getD_getElem?]; exact e1
          obtain ⟨e2i, e2, e2l, e2h⟩ : ∃ z : Int, a'.tmps.getD 33 undef = .int .i64 z ∧ 0 ≤ z ∧ z ≤ 3200 := hdeps 14 (by decide) 33 rfl
          have e2q : a'.tmps[33]?.getD undef = .int .i64 e2i := by rw [← Array.getD_eq_getD_getElem?]; exact e2
          clear hoth hdeps hdf hts ho hld
          refine wp_via (fun K' hK => ?_)
          have HK := Lib.hid hK
          clear hK
          go_simp
          exact HK.out _ _ ⟨_, rfl, hrt.same (by decide), Goes.refl _ _ _ _, fun _ => ⟨[.string e0s, .int .i64 fr, .int .i64 e2i], rfl, ⟨_, rfl, e0z⟩, ⟨_, rfl, by omega, by omega⟩, ⟨_, rfl, by omega, by omega⟩, trivial⟩⟩
        · obtain rfl := Option.some.inj ho
          obtain ⟨e0v, e0, e0g⟩ : ∃ vs : List Value, a'.tmps.getD 34 undef = .agg vs.toArray ∧ GdL Θw B N wx (Θw.fds 3) vs := hdeps 15 (by decide) 34 rfl
          obtain ⟨e0x0, e0x1, e0x2, rfl⟩ := inv3 e0g
          replace e0 : a'.tmps.getD 34 undef = .agg #[.string e0x0, .int .i64 e0x1, .int .i64 e0x2] := e0
          have e0q : a'.tmps[34]?.getD undef = .agg #[.string e0x0, .int .i64 e0x1, .int .i64 e0x2] := by rw [← Array.getD_eq_getD_getElem?]; exact e0
          clear hoth hdeps hdf hts ho hld
          refine wp_via (fun K' hK => ?_)
          have HK := Lib.hid hK
          clear hK
          go_simp
          exact HK.out _ _ ⟨_, rfl, hrt.all (by decide) (Kept.alloc _ _ _) hσ (hrt.ex.all (Kept.alloc _ _ _)), Goes.all (Kept.alloc _ _ _), fun _ => ⟨_, rfl, TB.lit1 hrt.lt (by decide) e0g⟩⟩
        · obtain rfl := Option.some.inj ho
          have e : a'.tmps.getD 19 undef = .slice va vn vc := hdeps 0 (by decide) 19 rfl
          obtain ⟨xb, x, xt⟩ : ∃ g, a'.tmps.getD 35 undef = .slice (some ⟨g, 0, none⟩) 1 1 ∧ TB Θw B N wx g 3 1 := hdeps 16 (by decide) 35 rfl
          have hlc : L 0 = true := hld 0 (by decide)
          clear hoth hdeps hdf hts ho hld
          refine wp_via (fun K' hK => ?_)
          have HK := Lib.hid hK
          clear hK
          refine op_append_tt wOk3 (wSep 3 (by decide)) wx _ _ rfl (va) vn vc e (HG2.out.goes (hrt.goes (fun _ => Nat.le_refl _))) _ 1 1 x xt (by decide) (by decide) N (fun _ => Nat.le_refl _) (by have := hlo 3; omega) (by have := hhi 3; omega) hrt.lt ?_
          intro p' c' w' hA
          exact HK.out _ _ ⟨_, rfl, hrt.app hlc (fun _ => Nat.le_refl _) (HG2.out.goes (hrt.goes (fun _ => Nat.le_refl _))) hA hσ (hrt.ex.app (HG2.out.goes (hrt.goes (fun _ => Nat.le_refl _))) hA (by decide)), hA.goes, fun _ => ⟨_, _, rfl, hA.gd⟩⟩
      · intro L wx f hrt hdl
        obtain ⟨e36a, e36c, e36, e36g⟩ : ∃ a c, f 36 = .slice a (vn + 1) c ∧ Gd Θw B N wx (.sl 3) (.slice a (vn + 1) c) := hdl 17 36 (by decide) rfl
        rw [show dsts _ _ = [19, 20, 21, 22, 23, 24, 25, 26, 27, 28, 29, 30, 31, 32, 33, 34, 35, 36] from by kernel_rfl]
        simp only [List.map_cons, List.map_nil, puts, Act.put, e36]
        generalize f 19 = f19
        generalize f 20 = f20
        generalize f 21 = f21
        generalize f 22 = f22
        generalize f 23 = f23
        generalize f 24 = f24
        generalize f 25 = f25
        generalize f 26 = f26
        generalize f 27 = f27
        generalize f 28 = f28
        generalize f 29 = f29
        generalize f 30 = f30
        generalize f 31 = f31
        generalize f 32 = f32
        generalize f 33 = f33
        generalize f 34 = f34
        generalize f 35 = f35
        simp only [List.setIfInBounds_toArray, List.set_cons_zero, List.set_cons_succ]
        clear hdl e36 f
        obtain ⟨mz, hstz, hmz1, hmz2⟩ := hrt.st
        have hgoz := Lib.hid (hrt.goes (fun _ => Nat.le_refl _))
        have hkpz := Lib.hid hrt.kp
        have hltz := Lib.hid hrt.lt
        have hstz := Lib.hid hstz
        have hexz := Lib.hid hrt.ex
        clear hrt
        have HF := Lib.hid (show GenW σ B N N n (1 + 200 * (k + 1)) w0 wx mz from ⟨hstz.out, by have := HGN.out.lo; omega, by have := HGN.out.hi; omega, (HGN.out.kp.trans2 HK2.out (fun _ _ h => h.2)).trans hkpz.out, (HGN.out.goes.trans (Goes.but HK2.out hσ)).trans hgoz.out⟩)
        go_wp2_with fail
        go_roundw
        case rel => exact ⟨k + 1, _, vn + 1, _, mz, by omega, by go_num, rfl, by omega, e36g, HF.out, hexz.out⟩
        case measure => simp [intOf]; omega
  case rest =>
    obtain ⟨va, vn, vc, m1, rfl, hvn, hgd, hgen, hkst⟩ := hcut
    obtain ⟨w2, rfl⟩ : ∃ z : World, z = wc := ⟨_, rfl⟩
    have HGD := Lib.hid hgd
    have HGN := Lib.hid hgen
    have HKS := Lib.hid hkst
    clear hgd hgen hkst
    go_wp2_with fail
    go_loopw [40] (fun i wr => ∃ k : Nat, k ≤ vn ∧ i = .int .i64 k ∧ GenW σ B N N n 700 w0 wr m1 ∧ Goes Θw B N w2 N wr ∧ KSt σ.b w0 wr) (fun i _ => vn - (intOf i).toNat)
    case atStart => exact ⟨0, Nat.zero_le _, rfl, HGN.out, Goes.refl _ _ _ _, HKS.out⟩
    case round =>
      obtain ⟨k, hk, rfl, hgen, hgo, hkst⟩ := hrel
      obtain ⟨wo, rfl⟩ : ∃ z : World, z = wr := ⟨_, rfl⟩
      have HG2 := Lib.hid (HGD.out.goes hgo)
      have HGE := Lib.hid hgen
      have HGO := Lib.hid hgo
      clear HKS
      have HKS := Lib.hid hkst
      clear hgen hgo hkst
      by_cases hlt : k < vn
      · obtain ⟨qa, qn, qc, eq, hqN, hqc, hq⟩ := HG2.out.slice
        cases eq
        obtain ⟨g, rfl, htb⟩ := hq (by omega)
        obtain ⟨x, d0, d1, d2, hx, hxt⟩ := htb.hom (i := k) (by omega)
        have z2 := htb.fz (k * 3 + 2)
        have f1 : (0 : Int) ≤ (k : Int) := by omega
        have f2 : (k : Int) < (vn : Int) := by omega
        obtain ⟨mn, hmn⟩ : ∃ m : Int, m = min x.til 4001 := ⟨_, rfl⟩
        have hmn1 : -2000000000000 ≤ mn := by have := hx.2.2; omega
        have hmn2 : mn ≤ 2000000000000 := by have := hx.2.2; omega
        have hset : Goes Θw B N wo N (wo.setCell ⟨g, k * 3 + 2, none⟩ (.int .i64 mn)) := Goes.set (wSep 3 (by decide)) htb (f := .i) (by rw [show (k * 3 + 2) % Θw.sz 3 = 2 from by show (k * 3 + 2) % 3 = 2; omega]; rfl) ⟨_, rfl, hmn1, hmn2⟩
        have hks : Kept (fun b => b < B) wo (wo.setCell ⟨g, k * 3 + 2, none⟩ (.int .i64 mn)) := Kept.setCell _ _ _ (by have := htb.low; dsimp only; omega)
        have HF := Lib.hid (show GenW σ B N N n 700 w0 (wo.setCell ⟨g, k * 3 + 2, none⟩ (.int .i64 mn)) m1 from ⟨HGE.out.st.kept hks (fun j hj => by omega), HGE.out.lo, HGE.out.hi, HGE.out.kp.trans2 hks (fun _ _ h => h.1), HGE.out.goes.trans hset⟩)
        have HG3 := Lib.hid (HGO.out.trans hset)
        have HK3 := Lib.hid (HKS.out.at (show Kept (fun b => b ≠ g) wo (wo.setCell ⟨g, k * 3 + 2, none⟩ (.int .i64 mn)) from Kept.setCell _ _ _ (fun h => h rfl)) htb (by decide))
        clear hset hks hx hxt htb hq hqN hmn1 hmn2
        subst hmn
        go_wp2_with fail
        go_roundw
        case rel => exact ⟨k + 1, by omega, by go_num, HF.out, HG3.out, HK3.out⟩
        case measure => simp [intOf]; omega
      · have hd : decide ((k : Int) < (vn : Int)) = false := by simp; omega
        have HGL := Lib.hid HG2.out
        go_wp2_with fail
        refine (sortHom_any B N va vn vc 142 wo HGL.out (by omega) (enters_of Tryz.func142 (by kernel_rfl) rfl) (cmpHome_ok B N)).mono ?_
        rintro e w3 ⟨rfl, hg3, hk3⟩
        have HS3 := Lib.hid (HGE.out.goes.trans hg3)
        have HS4 := Lib.hid (HGE.out.kp.trans2 (lowB hk3) (fun _ _ h => h.1))
        have HS5 := Lib.hid (HGE.out.st.kept (lowB hk3) (fun j hj => by omega))
        have HGL3 := Lib.hid (HGL.out.goes hg3)
        have HKS3 := Lib.hid (HKS.out.low hk3)
        clear hg3 hk3
        go_wp2_with fail
        refine (compactHom_any B N va vn vc w3 HGL3.out (by omega)).mono ?_
        rintro e w4 ⟨a, m, c, rfl, hmn, hg4, hgo4, hk4⟩
        have HF := Lib.hid (show GenW σ B N N n 800 w0 w4 m1 from ⟨HS5.out.kept (lowB hk4) (fun j hj => by omega), HGE.out.lo, by have := HGE.out.hi; omega, HS4.out.trans2 (lowB hk4) (fun _ _ h => h.1), HS3.out.trans hgo4⟩)
        have hg4 := Lib.hid hg4
        have HKS4 := Lib.hid (HKS3.out.low hk4)
        clear hgo4 hk4
        go_wp2_with fail
        go_ret
        exact ⟨_, m1, rfl, hg4.out, HF.out, HKS4.out⟩


end Go.Proofs.YtgobnlgmbplggaaGreatDoor
