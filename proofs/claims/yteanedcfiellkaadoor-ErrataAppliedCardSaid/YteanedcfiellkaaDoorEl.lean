/- Apply applies errata. -/
import Derived.Test.YteanedcfiellkaaDoorEk
import Derived.Test.YteanedcfiellkaaDoorGg
import Derived.Test.YteanedcfiellkaaDoorEb
import Derived.OwnWalk
namespace Go.Proofs.YteanedcfiellkaaDoor
open Go.RowKit

theorem fieldOf_any' (B0 : Nat) (tag : Nat → Nat) (a : Option Addr) (n c : Nat) (xs : List Fin4) (x : Err5) (w : World) (h : Own B0 tag xs (.slice a n c) w) (hr : Rises xs) (hl : xs.length ≤ 1000) :
    Calls Tryd.prog 88 #[.slice a n c, .agg #[.string x.paper, .int .i64 x.field, .string x.key, .string x.old, .string x.new]] w (FieldPost B0 tag xs (.slice a n c) x w) := by
  have h1 := (Own.sl h).1
  subst h1
  exact fieldOf_any B0 tag a c xs x w h hr hl

set_option maxRecDepth 100000 in
set_option maxHeartbeats 3200000 in
theorem apply_any (a : Option Addr) (len cap : Nat) (xs : List Fin4) (ae : Option Addr) (le ce : Nat) (es : List Err5) (w : World) (hs : Sl RFin 4 (fun _ => True) w a len xs) (hl : len ≤ 1000) (he : Sl RErr 5 (fun _ => True) w ae le es) (hle : le ≤ 1000) (hg : Glob w) :
    Calls Tryd.prog 34 #[.slice a len cap, .slice ae le ce] w (OutPost (applyAll xs es) w) := by
  by_cases hf : finalsF xs = 0
  · have d1 : (finalsF xs != 0) = false := by simp [hf]
    by_cases hf2 : errataF es = 0
    · have d2 : (errataF es != 0) = false := by simp [hf2]
      have HAP := Lib.hid (applyAll_ok hf hf2)
      have HR := Lib.hid (finalsF_rises hf).1
      have Hlen := Lib.hid hs.len
      have Hle := Lib.hid he.len
      clear hf hf2
      go_enter Tryd.func34, Tryd.ntmps34
      go_wp2_with fail
      refine (checkFinals_any a len cap xs _ hs hl hg).mono ?_
      rintro e w1 ⟨rfl, hw1⟩
      go_wp2_with fail
      refine (checkErrata_any ae le ce es _ (he.keep RErr.ok hw1) hle (hg.keep hw1)).mono ?_
      rintro e w2 ⟨rfl, hw2⟩
      have hk2 := hw1.trans hw2
      have hs2 := hs.keep RFin.ok hk2
      have he2 := he.keep RErr.ok hk2
      clear hs he hg hw1 hw2
      go_wp2_with fail
      refine (cloneFin_any a len cap xs _ hs2 hl).mono ?_
      rintro e w3 ⟨p, c, rfl, hacc, hw3⟩
      have hM := mix_start hacc
      have hxl : xs.length ≤ 1000 := by have := Hlen.out; omega
      clear hs2 hacc
      obtain ⟨ll, hll⟩ : ∃ ll, ll = xs.length := ⟨_, rfl⟩
      have HLL := Lib.hid hll
      rw [← hll] at hM hxl ⊢
      clear hll
      go_wp2_with fail
      go_loopw [30] (fun i wr => ∃ (k : Nat) (tag : Nat → Nat), k ≤ ll ∧ i = .int .i64 k ∧ AccI (RB w2.heap.size) 4 65 (Mix w2.heap.size tag) w2.heap.size wr (.slice p ll c) (mixL xs k) ∧ All w2 wr) (fun i _ => ll - (intOf i).toNat)
      case atStart => exact ⟨0, _, Nat.zero_le _, rfl, hM, hw3⟩
      case round =>
        clear hM hw3
        obtain ⟨k, tag, hk, rfl, hM, hwo⟩ := hrel
        obtain ⟨wo, rfl⟩ : ∃ wo : World, wo = wr := ⟨_, rfl⟩
        by_cases hlt : k < ll
        · obtain ⟨x, ac, cc, hx, hH, hsm, hcc, hcr⟩ := mix_open hM (by have := HLL.out; omega)
          obtain ⟨g, cg, hv, -, hBg⟩ := hH.form
          injection hv with hv1 hv2 hv3
          subst hv1
          have c0 : wo.cell? ⟨g, k * 4, none⟩ = some (.string x.paper) := hH.cell (j := 0) rfl
          have c1 : wo.cell? ⟨g, k * 4 + 1, none⟩ = some (.string x.title) := hH.cell (j := 1) rfl
          have c2 : wo.cell? ⟨g, k * 4 + 2, none⟩ = some (.int .i64 x.pages) := hH.cell (j := 2) rfl
          have c3 : wo.cell? ⟨g, k * 4 + 3, none⟩ = some (.slice ac x.credits.length cc) := hH.cell (j := 3) rfl
          have hgl := (hH.lt g rfl).2
          have HX := Lib.hid hx
          have HSM := Lib.hid hsm
          have hcl : x.credits.length ≤ 1000 := hsm.2.2.2.2
          have hHa := hH.keepAll (RB.ok w2.heap.size) (Kept.alloc (fun _ => True) wo (.cells #[.string x.paper, .string x.title, .int .i64 x.pages, .slice ac x.credits.length cc] 65))
          have hcra := hcr.keep RCred.ok (Kept.alloc (fun _ => True) wo (.cells #[.string x.paper, .string x.title, .int .i64 x.pages, .slice ac x.credits.length cc] 65))
          have hwa := hwo.then_alloc (.cells #[.string x.paper, .string x.title, .int .i64 x.pages, .slice ac x.credits.length cc] 65)
          have hblk := heap_at wo (.cells #[.string x.paper, .string x.title, .int .i64 x.pages, .slice ac x.credits.length cc] 65) _ rfl
          have e3 := cell_at (i := 3) hblk rfl
          clear hM hH hcr hwo hx hsm hblk hv2 hv3
          go_wp2_with fail
          refine (cloneCred_any ac x.credits.length cc x.credits _ hcra hcl).mono ?_
          rintro e w4 ⟨p2, cc2, rfl, hacc2, hw4⟩
          have hnx := Lib.hid (mix_next HX.out hHa hw4 HSM.out (hacc2.credAny _))
          have d3 := hw4.cell (Kept.cell (F := fun _ => True) (Kept.alloc _ wo (.cells #[.string x.paper, .string x.title, .int .i64 x.pages, .slice ac x.credits.length cc] 65)) c3 trivial) trivial
          have f3 : w4.frozen? ⟨g, k * 4 + 3, none⟩ = false := (hHa.keepAll (RB.ok w2.heap.size) hw4).frozen _
          have hwe := (hwa.trans hw4).then_setNew ⟨g, k * 4 + 3, none⟩ (.slice p2 x.credits.length cc2) hBg
          clear hHa hcra hwa hacc2 hw4
          go_wp2_with fail
          go_roundw
          case rel => exact ⟨k + 1, _, by omega, by go_num, hnx.out, hwe⟩
          case measure => simp [intOf]; omega
        · have hd : decide ((k : Int) < (ll : Int)) = false := by simp; omega
          have hE := Lib.hid (mix_end hM (by have := HLL.out; omega))
          clear hM
          go_wp2_with fail
          go_loopw [12, 45] (fun m i wr => ∃ (k : Nat) (n : Int), k ≤ le ∧ i = .int .i64 k ∧ m = .int .i64 n ∧ ApInv w2.heap.size tag xs es p ll c k n w2 wr) (fun _ i _ => le - (intOf i).toNat)
          case atStart => exact ⟨0, 0, Nat.zero_le _, rfl, rfl, xs, hE.out, HR.out, ApAt.zero _ _, by omega, by omega, hwo⟩
          case round =>
            clear hE hwo hd
            obtain ⟨k, n, hk, rfl, rfl, ys, hO, hr, hat, hn0, hn1, hwo⟩ := hrel
            obtain ⟨wo, rfl⟩ : ∃ wo : World, wo = wr := ⟨_, rfl⟩
            have HAT := Lib.hid hat
            have HR2 := Lib.hid hr
            have hyl : ys.length ≤ 1000 := by have := (Own.sl hO).1; omega
            clear hat hr
            by_cases hlt : k < le
            · obtain ⟨b, off, x, hae, -, c0, c1, c2, c3, c4, hsm, hx, -⟩ := (he2.keep RErr.ok hwo).atErr hlt
              subst hae
              have HX := Lib.hid hx
              have hns : x.new.size ≤ 1000000 := hsm.2.2.2.2
              have hwa := hwo.then_alloc (.cells #[.string x.paper, .int .i64 x.field, .string x.key, .string x.old, .string x.new] 124)
              have hOa := hO.keepAll (RFinO.ok 1000) (Kept.alloc (fun _ => True) wo (.cells #[.string x.paper, .int .i64 x.field, .string x.key, .string x.old, .string x.new] 124))
              have hblk := heap_at wo (.cells #[.string x.paper, .int .i64 x.field, .string x.key, .string x.old, .string x.new] 124) _ rfl
              have e3 := cell_at (i := 3) hblk rfl
              have e4 := cell_at (i := 4) hblk rfl
              clear hx hsm hO hblk hwo
              go_wp2_with fail
              refine (fieldOf_any' w2.heap.size tag p ll c ys x _ hOa HR2.out hyl).mono ?_
              rintro e w3 ⟨hw3, hcase⟩
              have hk3 := hwa.trans hw3
              have q3 := hw3.cell e3 trivial
              have q4 := hw3.cell e4 trivial
              have hO3 := hOa.keepAll (RFinO.ok 1000) hw3
              clear hOa hwa hw3 e3 e4
              rcases hcase with ⟨hwh, rfl⟩ | ⟨l, ad, hwh, rfl, hpl⟩
              · have hfin := Lib.hid (HAP.out.trans (HAT.out.none HX.out hwh))
                clear hwh
                go_wp2_with fail
                go_ret3
                exact OutPost.fail hfin.out (hk2.trans hk3)
              · have pc := hpl.cell
                have pf := hpl.free
                have hpz := hpl.small
                by_cases ho : getF ys l = x.old
                · have d1 : ((getF ys l).toList == x.old.toList) = true := by simp [ho]
                  have hnx := Lib.hid (ApInv.next HR2.out HAT.out HX.out hwh ho hn0 hn1 hk3 (Nat.le_refl _) hpl hns)
                  generalize getF ys l = t at *
                  clear hwh ho hpl hO3
                  go_wp2_with fail
                  go_quiet (fail)
                  go_wp2_with fail
                  go_roundw
                  case rel => exact ⟨k + 1, n + 1, by omega, by go_num, by go_num, hnx.out.keep (by repeat (first | exact Kept.refl _ _ | exact all_setDrew _ _ _ _ | refine Kept.then_drewN ?_ _ | refine Kept.then_drew ?_ | refine Kept.then_alloc ?_ _))⟩
                  case measure => simp [intOf]; omega
                · have d1 : ((getF ys l).toList == x.old.toList) = false := by simp; exact fun e => ho (bytes_ext e)
                  by_cases hne : getF ys l = x.new
                  · have d2 : ((getF ys l).toList == x.new.toList) = true := by simp [hne]
                    have d3 : ((getF ys l).toList != x.new.toList) = false := by simp [hne]
                    have hnx := Lib.hid (ApInv.same HR2.out hO3 HAT.out HX.out hwh ho hne hn0 hn1 hk3)
                    generalize getF ys l = t at *
                    clear hwh ho hpl hO3 hne
                    go_wp2_with fail
                    go_quiet (fail)
                    go_wp2_with fail
                    go_quiet (fail)
                    go_wp2_with fail
                    go_roundw
                    case rel => exact ⟨k + 1, n, by omega, by go_num, by go_num, hnx.out.keep (by repeat (first | exact Kept.refl _ _ | exact all_setDrew _ _ _ _ | refine Kept.then_drewN ?_ _ | refine Kept.then_drew ?_ | refine Kept.then_alloc ?_ _))⟩
                    case measure => simp [intOf]; omega
                  · have d2 : ((getF ys l).toList == x.new.toList) = false := by simp; exact fun e => hne (bytes_ext e)
                    have d3 : ((getF ys l).toList != x.new.toList) = true := by simp; exact fun e => hne (bytes_ext e)
                    have hfin := Lib.hid (HAP.out.trans (HAT.out.conf HX.out hwh ho hne))
                    generalize getF ys l = t at *
                    clear hwh ho hpl hO3 hne
                    go_wp2_with fail
                    go_quiet (fail)
                    go_wp2_with fail
                    go_quiet (fail)
                    go_wp2_with fail
                    go_ret3
                    exact OutPost.fail hfin.out ((hk2.trans hk3).trans (by repeat (first | exact Kept.refl _ _ | exact all_setDrew _ _ _ _ | refine Kept.then_drewN ?_ _ | refine Kept.then_drew ?_ | refine Kept.then_alloc ?_ _)))
            · have hd : decide ((k : Int) < (le : Int)) = false := by simp; omega
              have hfin := Lib.hid (HAP.out.trans (HAT.out.ok (by have := Hle.out; omega)))
              clear HAT
              go_wp2_with fail
              go_ret3
              exact OutPost.good hfin.out hO hyl (hk2.trans hwo)
    · have d2 : (errataF es != 0) = true := by simp [hf2]
      have hfin := Lib.hid (applyAll_err hf hf2)
      clear hf hf2
      go_enter Tryd.func34, Tryd.ntmps34
      go_wp2_with fail
      refine (checkFinals_any a len cap xs _ hs hl hg).mono ?_
      rintro e w1 ⟨rfl, hw1⟩
      go_wp2_with fail
      refine (checkErrata_any ae le ce es _ (he.keep RErr.ok hw1) hle (hg.keep hw1)).mono ?_
      rintro e w2 ⟨rfl, hw2⟩
      have hk2 := hw1.trans hw2
      go_wp2_with fail
      go_ret3
      exact OutPost.fail hfin.out hk2
  · have d1 : (finalsF xs != 0) = true := by simp [hf]
    have hfin := Lib.hid (applyAll_fin (es := es) hf)
    clear hf
    go_enter Tryd.func34, Tryd.ntmps34
    go_wp2_with fail
    refine (checkFinals_any a len cap xs _ hs hl hg).mono ?_
    rintro e w1 ⟨rfl, hw1⟩
    go_wp2_with fail
    go_ret3
    exact OutPost.fail hfin.out hw1
end Go.Proofs.YteanedcfiellkaaDoor
