/- Errata makes errata, nearly always right ones. -/
import Derived.Test.YteanedcfiellkaaDoorEo
import Derived.Test.YteanedcfiellkaaDoorFc
import Derived.Deep.DrawnRows
namespace Go.Proofs.YteanedcfiellkaaDoor
open Go.RowKit
attribute [local go_sem ↓] Go.wp_at_zero Go.wp_at_succ

set_option maxRecDepth 100000 in
set_option maxHeartbeats 12800000 in
theorem errata_any (σ : St) (n : Nat) (af : Option Addr) (lf cf : Nat) (xs : List Fin4) (w : World) (hs : Str σ w n) (hn : n ≤ 4611686018427100000) (hf : Sl RFin 4 (fun k => k ≠ σ.b) w af lf xs) (hlf : lf ≤ 10) :
    Calls Tryd.prog 33 #[.pointer (some ⟨σ.b, 0, none⟩), .slice af lf cf] w (StPost σ n 1000 w (IsErrs σ)) := by
  have hlt := hs.lt
  go_enter Tryd.func33, Tryd.ntmps33
  go_wp2_with fail
  refine (range_any σ n 0 4 _ hs (by omega) (by omega) (by omega) (by omega)).mono ?_
  rintro e w1 ⟨v, m1, rfl, ⟨r, rfl, hr1, hr2⟩, hm1, hm2, hs1, hb1⟩
  obtain ⟨rn, rfl⟩ := Int.eq_ofNat_of_zero_le hr1
  clear hs
  go_wp2_with fail
  go_loopw [5, 11] (fun v i wr => ∃ (k : Nat) (es : List Err5) (n' : Nat), k ≤ rn ∧ i = .int .i64 k ∧ Acc RErr 5 124 (fun _ => False) w.heap.size wr v es ∧ es.length = k ∧ Str σ wr n' ∧ n ≤ n' ∧ n' ≤ n + 1 + k * 20 ∧ But σ.b w wr) (fun _ i _ => rn - (intOf i).toNat)
  case atStart => exact ⟨0, [], m1, Nat.zero_le _, rfl, Acc.nil _ _ _ _ _ _, rfl, hs1, by omega, by omega, hb1⟩
  case round =>
    clear hs1 hb1
    obtain ⟨k, es, n', hk, rfl, hacc, hlen, hsr, hn1, hn2, hbr⟩ := hrel
    obtain ⟨wo, rfl⟩ : ∃ wo : World, wo = wr := ⟨_, rfl⟩
    obtain ⟨ae, ce, hve, hce⟩ := hacc.form
    subst hve
    have HEND := Lib.hid (show IsErrs σ (.slice ae es.length ce) wo by
      obtain ⟨a', c', hv', hsl⟩ := hacc.sl RErr.ok (by decide) (G := fun k => k ≠ σ.b) (fun _ h => h.elim) (fun k hk => by have := (hacc.lt k hk).1; omega)
      cases hv'
      exact ⟨_, _, es, rfl, by omega, hsl⟩)
    by_cases hlt2 : k < rn
    · by_cases h0 : lf = 0
      · subst h0
        go_wp2_with fail
        go_ret
        exact ⟨_, n', rfl, HEND.out, by omega, by omega, hsr, hbr⟩
      · have d0 : ((lf : Int) == 0) = false := by simp; omega
        have hown := hacc.lt
        clear HEND
        go_wp2_with fail
        refine (next_any σ n' _ _ hsr (by omega) (by omega) (by omega)).mono ?_
        rintro e w2 ⟨v, n2, rfl, ⟨ri, rfl, hri1, hri2⟩, hn3, hn4, hs2, hb2⟩
        obtain ⟨i, rfl⟩ := Int.eq_ofNat_of_zero_le hri1
        have hbo2 : But σ.b w w2 := hbr.trans hb2
        have hacc2 : Acc RErr 5 124 (fun _ => False) w.heap.size w2 (.slice ae es.length ce) es := hacc.keep RErr.ok hb2 (fun _ h => h.elim) (fun k hk => by have := (hacc.lt k hk).1; omega)
        obtain ⟨bf, of, f, ac, cc, haf, -, c0, c1, c2, c3, hfs, hcc, hcr, -, -, -⟩ := (hf.keep RFin.ok hbo2).atFin (k := i) (by omega)
        subst haf
        have hcl : f.credits.length ≤ 1000 := hfs.2.2.2.2
        have hz0 : f.paper.size ≤ 1000000 := hfs.1
        have hz1 : f.title.size ≤ 1000000 := hfs.2.1
        have hlt3 := hs2.lt
        have hsz2 := hbo2.size
        have hs3 := hs2.keep (Kept.alloc (fun _ => True) w2 (.cells #[.string f.paper, .string f.title, .int .i64 f.pages, .slice ac f.credits.length cc] 65))
        have hbo3 : But σ.b w (w2.alloc (.cells #[.string f.paper, .string f.title, .int .i64 f.pages, .slice ac f.credits.length cc] 65)) := hbo2.then_alloc _
        have hacc3 := hacc2.keepAll RErr.ok (Kept.alloc (fun _ => True) w2 (.cells #[.string f.paper, .string f.title, .int .i64 f.pages, .slice ac f.credits.length cc] 65))
        have hcr3 := hcr.keep RCred.ok (Kept.alloc (fun k => k ≠ σ.b) w2 (.cells #[.string f.paper, .string f.title, .int .i64 f.pages, .slice ac f.credits.length cc] 65))
        have hF : FBlk w2.heap.size f ac cc (w2.alloc (.cells #[.string f.paper, .string f.title, .int .i64 f.pages, .slice ac f.credits.length cc] 65)) := heap_at _ _ _ rfl
        have hbf := lt_of_cell c0
        dsimp only at hbf
        clear hacc hsr hb2 hbr hs2 hbo2 hacc2 hcr hfs
        go_upto_region 6 with fail
        have hsz3 : (w2.alloc (.cells #[.string f.paper, .string f.title, .int .i64 f.pages, .slice ac f.credits.length cc] 65)).heap.size = w2.heap.size + 1 := by simp
        generalize hw3 : w2.alloc (.cells #[.string f.paper, .string f.title, .int .i64 f.pages, .slice ac f.credits.length cc] 65) = w3 at *
        generalize hfb : w2.heap.size = fb at *
        have hσf : σ.b < fb := by omega
        have hf3 : fb < w3.heap.size := by omega
        have hwf : w.heap.size ≤ fb := by omega
        clear hw3 hfb c0 c1 c2 c3 hbf hlt3 hsz3 hsz2
        generalize n2 = n3 at *
        have hp0 := cell_at (i := 0) hF rfl
        have hp1 := cell_at (i := 1) hF rfl
        go_cut [7] (fun v wx => ∃ eb, v = .pointer (some ⟨eb, 0, none⟩) ∧ w3.heap.size ≤ eb ∧ MakingE σ eb n3 1 w3 wx)
        case first =>
          have hn3b : n3 ≤ 4611686018427200000 := by omega
          have hne0 : w3.heap.size ≠ σ.b := by omega
          have hne1 : w3.heap.size + 1 ≠ σ.b := by omega
          clear hf hacc3 hcr3 hbo3 hown hlen hn1 hn2 hn3 hn4 hcl hri1 hri2 d0 h0 hce hcc hm1 hm2 hr1 hr2 hn hlf hwf hlt2 hk
          go_region_held3 (fun w' => w'.cell? ⟨fb, 0, none⟩ = some (.string f.paper) ∧ w'.cell? ⟨fb, 1, none⟩ = some (.string f.title)) (first | exact ⟨Kept.cell (F := fun k => k = fb) (w := w5) (by repeat (first | with_reducible exact Kept.refl _ _ | with_reducible refine Kept.then_drew ?_ | with_reducible refine Kept.then_alloc ?_ _ | with_reducible refine Kept.then_setCell ?_ _ _ (by dsimp only; omega) | with_reducible refine Kept.then_drewN ?_ _)) q0 rfl, Kept.cell (F := fun k => k = fb) (w := w5) (by repeat (first | with_reducible exact Kept.refl _ _ | with_reducible refine Kept.then_drew ?_ | with_reducible refine Kept.then_alloc ?_ _ | with_reducible refine Kept.then_setCell ?_ _ _ (by dsimp only; omega) | with_reducible refine Kept.then_drewN ?_ _)) q1 rfl⟩ | exact ⟨Kept.cell (F := fun k => k = fb) (w := w3) (by repeat (first | with_reducible exact Kept.refl _ _ | with_reducible refine Kept.then_drew ?_ | with_reducible refine Kept.then_alloc ?_ _ | with_reducible refine Kept.then_setCell ?_ _ _ (by dsimp only; omega) | with_reducible refine Kept.then_drewN ?_ _)) hp0 rfl, Kept.cell (F := fun k => k = fb) (w := w3) (by repeat (first | with_reducible exact Kept.refl _ _ | with_reducible refine Kept.then_drew ?_ | with_reducible refine Kept.then_alloc ?_ _ | with_reducible refine Kept.then_setCell ?_ _ _ (by dsimp only; omega) | with_reducible refine Kept.then_drewN ?_ _)) hp1 rfl⟩) (first
            | (go_at_call 63; refine (some10_any σ n3 _ _ _ [⟨#[79, 110, 32, 116, 97, 108, 108, 32, 116, 114, 101, 101, 115]⟩, ⟨#[79, 110, 32, 114, 111, 111, 116, 115]⟩, ⟨#[90, 122, 122]⟩] _ (hs3.keep (by repeat (first | with_reducible exact Kept.refl _ _ | with_reducible refine Kept.then_drew ?_ | with_reducible refine Kept.then_alloc ?_ _ | with_reducible refine Kept.then_drewN ?_ _))) (by omega) (Sl.lit_strs _ (by first | with_reducible exact Go.Proofs.YteanedcfiellkaaDoor.hp0 _ _ | with_reducible exact hd0 _ _ | with_reducible exact hdo _ _ _ | with_reducible exact hd1 _ _ _ | with_reducible exact hpo _ _ _ | with_reducible exact Go.Proofs.YteanedcfiellkaaDoor.hp1 _ _ _) (by rfl) (by omega)) (by simp) (by simp)).mono ?_; rintro e w5 ⟨v, n5, rfl, ⟨s, rfl, -, hz⟩, hn15, hn16, hs5, hb5⟩; have hb35 : But σ.b w3 w5 := (Kept.all (by repeat (first | with_reducible exact Kept.refl _ _ | with_reducible refine Kept.then_drew ?_ | with_reducible refine Kept.then_alloc ?_ _ | with_reducible refine Kept.then_drewN ?_ _))).trans hb5; have q0 := hb35.cell hp0 (by dsimp only; omega); have q1 := hb35.cell hp1 (by dsimp only; omega); have hl5 : fb < w5.heap.size := World.block_lt_of_cell? w5 _ q0; first | (with_reducible have zb := zLate (Z := (.cells #[.string ⟨#[]⟩, .int .i64 0, .string ⟨#[]⟩, .string ⟨#[]⟩, .string ⟨#[]⟩] 124 (0, 0))) hb5 hne1; have z0 := cell_at (i := 0) zb rfl; have y0 := frozen_at (i := 0) zb; have z1 := cell_at (i := 1) zb rfl; have y1 := frozen_at (i := 1) zb; have z2 := cell_at (i := 2) zb rfl; have y2 := frozen_at (i := 2) zb; have z3 := cell_at (i := 3) zb rfl; have y3 := frozen_at (i := 3) zb; have z4 := cell_at (i := 4) zb rfl; have y4 := frozen_at (i := 4) zb) | (with_reducible have zb := zEarly (Z := (.cells #[.string ⟨#[]⟩, .int .i64 0, .string ⟨#[]⟩, .string ⟨#[]⟩, .string ⟨#[]⟩] 124 (0, 0))) hb5 hne0; have z0 := cell_at (i := 0) zb rfl; have y0 := frozen_at (i := 0) zb; have z1 := cell_at (i := 1) zb rfl; have y1 := frozen_at (i := 1) zb; have z2 := cell_at (i := 2) zb rfl; have y2 := frozen_at (i := 2) zb; have z3 := cell_at (i := 3) zb rfl; have y3 := frozen_at (i := 3) zb; have z4 := cell_at (i := 4) zb rfl; have y4 := frozen_at (i := 4) zb) | skip))
          all_goals
            have hsz5 := hb35.size
            have hs5l := hs5.lt
            have hxs : ErrSmall ⟨f.paper, 1, ⟨#[]⟩, f.title, s⟩ := ⟨hz0, by dsimp only; omega, by dsimp only; decide, hz1, hz⟩
            first
              | (have hm := Lib.hid (MakingE.make (n := n3) (c := 1) (w0 := w3) (by omega) (by omega) zb hs5 hb35 (by omega) (by omega) _ hxs); clear zb)
              | (have hm := Lib.hid (show MakingE σ w5.heap.size n3 1 w3 (w5.alloc (.cells #[.string f.paper, .int .i64 1, .string ⟨#[]⟩, .string f.title, .string s] 124)) from ⟨⟨f.paper, 1, ⟨#[]⟩, f.title, s⟩, n5, heap_at _ _ _ rfl, hxs, hs5.keep (Kept.alloc _ _ _), by omega, by omega, hb35.then_alloc _⟩))
            clear hs5 hs3 hb5 hb35 hF hxs
            go_wp2_with fail
            go_meet
            exact ⟨_, rfl, by omega, hm.out.keep (by repeat (first | with_reducible exact Kept.refl _ _ | with_reducible refine Kept.then_drew ?_ | with_reducible refine Kept.then_alloc ?_ _ | with_reducible refine Kept.then_drewN ?_ _))⟩
        case rest =>
          clear hp0 hp1
          obtain ⟨eb, rfl, h0e, HC⟩ := hcut
          have hσe : σ.b < eb := by omega
          obtain ⟨x, nq, hE, hsm, hsq, hnq1, hnq2, hbq⟩ := HC
          obtain ⟨wq, rfl⟩ : ∃ wq : World, wq = wc := ⟨_, rfl⟩
          have hsql := hsq.lt
          have hEl : eb < wq.heap.size := by rcases Array.getElem?_eq_some_iff.1 hE with ⟨h, _⟩; exact h
          have p3 := cell_at (i := 3) (hbq.heap hF (show fb ≠ σ.b by omega)) rfl
          go_upto_region 7 with fail
          go_cut [38] (fun t wx => ∃ b : Bool, t = .bool b ∧ (b = true → 0 < f.credits.length) ∧ MakingE σ eb n3 2 w3 wx)
          case first =>
            by_cases hc0 : 0 < f.credits.length
            · have d1 : decide ((0 : Int) < (f.credits.length : Int)) = true := decide_eq_true (by omega)
              go_wp2_with fail
              refine (flip_any σ nq _ _ hsq (by omega) (by omega) (by omega)).mono ?_
              rintro e w5 ⟨v, n5, rfl, ⟨r, rfl⟩, hn15, hn16, hs5, hb5⟩
              obtain ⟨hE5, hb50⟩ := EStep hσe hE hbq (Kept.refl _ _) hb5
              have hm := Lib.hid (show MakingE σ eb n3 2 w3 w5 from ⟨x, n5, hE5, hsm, hs5, by omega, by omega, hb50⟩)
              clear hsq hs5 hE hE5 hbq hb5 hb50
              go_wp2_with fail
              go_meet
              exact ⟨_, rfl, fun _ => hc0, hm.out⟩
            · have d1 : decide ((0 : Int) < (f.credits.length : Int)) = false := decide_eq_false (by omega)
              have hm := Lib.hid (show MakingE σ eb n3 2 w3 wq from ⟨x, nq, hE, hsm, hsq, by omega, by omega, hbq⟩)
              clear hsq hE hbq
              go_wp2_with fail
              go_meet
              exact ⟨_, rfl, fun h => by simp at h, hm.out⟩
          case rest =>
            clear hE hsm hsq hbq hnq1 hnq2 hsql hEl p3
            clear x nq
            obtain ⟨b, rfl, hb38, HC⟩ := hcut
            go_upto_if 38 with fail
            go_cut [8] (fun _ wx => MakingE σ eb n3 4 w3 wx)
            case first =>
              cases b
              · have hm := Lib.hid (HC.mono (c' := 4) (by omega))
                go_wp2_with fail
                go_meet
                exact hm.out
              · have hc0 := hb38 rfl
                obtain ⟨x, nq, hE, hsm, hsq, hnq1, hnq2, hbq⟩ := HC
                obtain ⟨wq, rfl⟩ : ∃ wq : World, wq = wc := ⟨_, rfl⟩
                have hsql := hsq.lt
                have hEl : eb < wq.heap.size := by rcases Array.getElem?_eq_some_iff.1 hE with ⟨h, _⟩; exact h
                have p3 := cell_at (i := 3) (hbq.heap hF (show fb ≠ σ.b by omega)) rfl
                have hn3b : n3 ≤ 4611686018427200000 := by omega
                have hne0 : wq.heap.size ≠ σ.b := by omega
                clear hf hacc3 hbo3 hown hlen hn1 hn2 hn3 hn4 hri1 hri2 d0 h0 hce hcc hm1 hm2 hr1 hr2 hn hlf hwf hlt2 hk hz0 hz1
                go_upto_region 8 with fail
                go_cut [8] (fun v wx => ∃ cb, v = .pointer (some ⟨cb, 0, none⟩) ∧ WithC σ eb n3 3 w3 cb wx)
                case first =>
                  have hszq := hbq.size
                  have hlq : fb < wq.heap.size := World.block_lt_of_cell? wq _ p3
                  go_region_law (first
                    | (go_simp; go_at_call 59; refine (next_any σ nq _ _ (hsq.keep (by repeat (first | with_reducible exact Kept.refl _ _ | with_reducible refine Kept.then_drew ?_ | with_reducible refine Kept.then_alloc ?_ _ | with_reducible refine Kept.then_drewN ?_ _))) (by omega) (by omega) (by omega)).mono ?_; rintro e w5 ⟨v, n5, rfl, ⟨rj, rfl, hrj1, hrj2⟩, hn15, hn16, hs5, hb5⟩; obtain ⟨j, rfl⟩ := Int.eq_ofNat_of_zero_le hrj1; obtain ⟨hE5, hb50⟩ := EStep hσe hE hbq (by repeat (first | with_reducible exact Kept.refl _ _ | with_reducible refine Kept.then_drew ?_ | with_reducible refine Kept.then_alloc ?_ _ | with_reducible refine Kept.then_drewN ?_ _)) hb5; have q3 := cell_at (i := 3) (hb50.heap hF (show fb ≠ σ.b by omega)) rfl; obtain ⟨bc, oc, y, hac, -, y0, y1, hyz0, hyz1, -, -, -⟩ := (hcr3.keep RCred.ok hb50).atCred (k := j) (by omega); subst hac; have hbc : bc < w5.heap.size := World.block_lt_of_cell? w5 _ y0; have hl5 : fb < w5.heap.size := World.block_lt_of_cell? w5 _ q3; first | (with_reducible have zb := zOnly (Z := (.cells #[.string ⟨#[]⟩, .string ⟨#[]⟩] 107 (0, 0))) hb5 hne0; have z0 := cell_at (i := 0) zb rfl; have x0 := frozen_at (i := 0) zb; have z1 := cell_at (i := 1) zb rfl; have x1 := frozen_at (i := 1) zb) | skip))
                  all_goals
                    have hs5l := hs5.lt
                    first
                      | (have hm := Lib.hid (WithC.make (n := n3) (c := 3) (eb := eb) (by omega) (by omega) (by omega) zb hE5 hsm hs5 hb50 (by omega) (by omega) y hyz0 hyz1); clear zb)
                      | (have hm := Lib.hid (WithC.fresh (n := n3) (c := 3) hE5 hsm hs5 hb50 (by omega) (by omega) y hyz0 hyz1))
                    clear hs5 hsq hb5 hb50 hE hE5 hF hcr3 hbq
                    go_wp2_with fail
                    go_meet
                    exact ⟨_, rfl, hm.out.keep (by repeat (first | with_reducible exact Kept.refl _ _ | with_reducible refine Kept.then_drew ?_ | with_reducible refine Kept.then_alloc ?_ _ | with_reducible refine Kept.then_drewN ?_ _))⟩
                case rest =>
                  clear hE hsm hsq hbq hnq1 hnq2 hsql hEl p3 hne0
                  clear x nq
                  obtain ⟨cb, rfl, y, hC, hy1, hy2, ⟨x, nq, hE, hsm, hsq, hnq1, hnq2, hbq⟩, hcb0, hcbe⟩ := hcut
                  clear wq
                  obtain ⟨wq, rfl⟩ : ∃ wq : World, wq = wc := ⟨_, rfl⟩
                  have hsql := hsq.lt
                  have p0 := cell_at (i := 0) hC rfl
                  have p1 := cell_at (i := 1) hC rfl
                  have hcl8 := World.block_lt_of_cell? wq _ p0
                  have hcσ : cb ≠ σ.b := by omega
                  have hebc : eb ≠ cb := Ne.symm hcbe
                  clear hcr3 hF
                  go_wp2_with fail
                  go_region_held3 (fun w' => w'.cell? ⟨cb, 0, none⟩ = some (.string y.key) ∧ w'.cell? ⟨cb, 1, none⟩ = some (.string y.name)) (first | exact ⟨Kept.cell (F := fun k => k = cb) (w := w5) (by repeat (first | with_reducible exact Kept.refl _ _ | with_reducible refine Kept.then_drew ?_ | with_reducible refine Kept.then_alloc ?_ _ | with_reducible refine Kept.then_setCell ?_ _ _ (by dsimp only; omega) | with_reducible refine Kept.then_drewN ?_ _)) q0 rfl, Kept.cell (F := fun k => k = cb) (w := w5) (by repeat (first | with_reducible exact Kept.refl _ _ | with_reducible refine Kept.then_drew ?_ | with_reducible refine Kept.then_alloc ?_ _ | with_reducible refine Kept.then_setCell ?_ _ _ (by dsimp only; omega) | with_reducible refine Kept.then_drewN ?_ _)) q1 rfl⟩ | exact ⟨Kept.cell (F := fun k => k = cb) (w := wq) (by repeat (first | with_reducible exact Kept.refl _ _ | with_reducible refine Kept.then_drew ?_ | with_reducible refine Kept.then_alloc ?_ _ | with_reducible refine Kept.then_setCell ?_ _ _ (by dsimp only; omega) | with_reducible refine Kept.then_drewN ?_ _)) p0 rfl, Kept.cell (F := fun k => k = cb) (w := wq) (by repeat (first | with_reducible exact Kept.refl _ _ | with_reducible refine Kept.then_drew ?_ | with_reducible refine Kept.then_alloc ?_ _ | with_reducible refine Kept.then_setCell ?_ _ _ (by dsimp only; omega) | with_reducible refine Kept.then_drewN ?_ _)) p1 rfl⟩) (first
                    | (go_at_call 63; refine (some10_any σ nq _ _ _ [⟨#[65, 110, 110, 32, 76, 101, 101]⟩, ⟨#[90, 101, 100, 32, 90, 46]⟩, ⟨#[80, 108, 97, 116, 111]⟩] _ (hsq.keep (by repeat (first | with_reducible exact Kept.refl _ _ | with_reducible refine Kept.then_drew ?_ | with_reducible refine Kept.then_alloc ?_ _ | with_reducible refine Kept.then_drewN ?_ _))) (by omega) (Sl.lit_strs _ (by first | with_reducible exact Go.Proofs.YteanedcfiellkaaDoor.hp0 _ _ | with_reducible exact hd0 _ _ | with_reducible exact hdo _ _ _ | with_reducible exact hd1 _ _ _ | with_reducible exact hpo _ _ _ | with_reducible exact Go.Proofs.YteanedcfiellkaaDoor.hp1 _ _ _) (by rfl) (by omega)) (by simp) (by simp)).mono ?_; rintro e w5 ⟨v, n5, rfl, ⟨s, rfl, -, hz⟩, hn15, hn16, hs5, hb5⟩; obtain ⟨hE5, hb50⟩ := EStep hσe hE hbq (by repeat (first | with_reducible exact Kept.refl _ _ | with_reducible refine Kept.then_drew ?_ | with_reducible refine Kept.then_alloc ?_ _ | with_reducible refine Kept.then_drewN ?_ _)) hb5; have hC5 := hb5.heap (Kept.heap (F := fun _ => True) (by repeat (first | with_reducible exact Kept.refl _ _ | with_reducible refine Kept.then_drew ?_ | with_reducible refine Kept.then_alloc ?_ _ | with_reducible refine Kept.then_drewN ?_ _)) hC trivial) hcσ; have q0 := cell_at (i := 0) hC5 rfl; have q1 := cell_at (i := 1) hC5 rfl; have e1 := cell_at (i := 1) hE5 rfl; have e2 := cell_at (i := 2) hE5 rfl; have e3 := cell_at (i := 3) hE5 rfl; have e4 := cell_at (i := 4) hE5 rfl; have f1 := frozen_at (i := 1) hE5; have f2 := frozen_at (i := 2) hE5; have f3 := frozen_at (i := 3) hE5; have f4 := frozen_at (i := 4) hE5))
                  all_goals
                    have hm := Lib.hid (MakingE.put4 (n := n3) (c := 4) hσe h0e hE5 hs5 hb50 (by omega) (by omega) hsm hy1 hy2 hz)
                    clear hs5 hsq hb5 hb50 hE hE5 hC hC5 hbq
                    go_wp2_with fail
                    go_meet
                    exact hm.out.keep (by repeat (first | with_reducible exact Kept.refl _ _ | with_reducible refine Kept.then_drew ?_ | with_reducible refine Kept.then_alloc ?_ _ | with_reducible refine Kept.then_drewN ?_ _))
            case rest =>
              clear HC hb38
              have HC := hcut
              clear hcut
              obtain ⟨x, nq, hE, hsm, hsq, hnq1, hnq2, hbq⟩ := HC
              obtain ⟨wq, rfl⟩ : ∃ wq : World, wq = wc := ⟨_, rfl⟩
              have hsql := hsq.lt
              have hEl : eb < wq.heap.size := by rcases Array.getElem?_eq_some_iff.1 hE with ⟨h, _⟩; exact h
              go_wp2_with fail
              refine (flip_any σ nq _ _ hsq (by omega) (by omega) (by omega)).mono ?_
              rintro e w6 ⟨v, n7, rfl, ⟨r, rfl⟩, hn11, hn12, hs7, hb7⟩
              obtain ⟨hE7, hb70⟩ := EStep hσe hE hbq (Kept.refl _ _) hb7
              clear hE hsq hbq hb7 hsql hEl
              clear wq
              obtain ⟨w7, rfl⟩ : ∃ w7 : World, w7 = w6 := ⟨_, rfl⟩
              have hs7l := hs7.lt
              go_upto_if 60 with fail
              go_cut [] (fun wx => MakingE σ eb n3 6 w3 wx)
              case first =>
                cases r
                · have hm := Lib.hid (show MakingE σ eb n3 6 w3 w7 from ⟨x, n7, hE7, hsm, hs7, by omega, by omega, hb70⟩)
                  clear hs7 hE7 hb70
                  go_wp2_with fail
                  go_meet
                  exact hm.out
                · go_wp2_with fail
                  refine (some10_any σ n7 _ _ _ [⟨#[79, 110, 32, 116, 114, 101, 101, 115]⟩, ⟨#[79, 116, 104, 101, 114]⟩] _ (hs7.keep (by repeat (first | with_reducible exact Kept.refl _ _ | with_reducible refine Kept.then_drew ?_ | with_reducible refine Kept.then_alloc ?_ _ | with_reducible refine Kept.then_drewN ?_ _))) (by omega) (Sl.lit_strs _ (by first | with_reducible exact Go.Proofs.YteanedcfiellkaaDoor.hp0 _ _ | with_reducible exact hd0 _ _ | with_reducible exact hdo _ _ _ | with_reducible exact hd1 _ _ _ | with_reducible exact hpo _ _ _ | with_reducible exact Go.Proofs.YteanedcfiellkaaDoor.hp1 _ _ _) (by rfl) (by omega)) (by simp) (by simp)).mono ?_
                  rintro e w8 ⟨v, n8, rfl, ⟨s, rfl, -, hz⟩, hn15, hn16, hs8, hb8⟩
                  obtain ⟨hE8, hb80⟩ := EStep hσe hE7 hb70 (by repeat (first | with_reducible exact Kept.refl _ _ | with_reducible refine Kept.then_drew ?_ | with_reducible refine Kept.then_alloc ?_ _ | with_reducible refine Kept.then_drewN ?_ _)) hb8
                  have hc8 := cell_at (i := 3) hE8 rfl
                  have hf8 := frozen_at (i := 3) hE8
                  have hm := Lib.hid (MakingE.put (n := n3) (c := 6) hσe h0e hE8 hs8 hb80 (by omega) (by omega) (j := 3) (v := .string s) { x with old := s } rfl ⟨hsm.1, hsm.2.1, hsm.2.2.1, hz, hsm.2.2.2.2⟩)
                  clear hs8 hs7 hE8 hE7 hb8 hb80 hb70
                  go_wp2_with fail
                  go_meet
                  exact hm.out
              case rest =>
                clear hE7 hsm hs7 hb70 hnq1 hnq2 hn11 hn12 hs7l
                clear x nq n7
                have HC := hcut
                clear hcut
                obtain ⟨x, nq, hE, hsm, hsq, hnq1, hnq2, hbq⟩ := HC
                obtain ⟨wq, rfl⟩ : ∃ wq : World, wq = wc := ⟨_, rfl⟩
                have hsql := hsq.lt
                have hEl : eb < wq.heap.size := by rcases Array.getElem?_eq_some_iff.1 hE with ⟨h, _⟩; exact h
                go_wp2_with fail
                refine (flip_any σ nq _ _ hsq (by omega) (by omega) (by omega)).mono ?_
                rintro e w6 ⟨v, n7, rfl, ⟨r, rfl⟩, hn11, hn12, hs7, hb7⟩
                obtain ⟨hE7, hb70⟩ := EStep hσe hE hbq (Kept.refl _ _) hb7
                clear hE hsq hbq hb7 hsql hEl
                clear wq
                obtain ⟨w7, rfl⟩ : ∃ w7 : World, w7 = w6 := ⟨_, rfl⟩
                have hs7l := hs7.lt
                go_upto_if 66 with fail
                go_cut [] (fun wx => MakingE σ eb n3 12 w3 wx)
                case first =>
                  cases r
                  · have hm := Lib.hid (show MakingE σ eb n3 12 w3 w7 from ⟨x, n7, hE7, hsm, hs7, by omega, by omega, hb70⟩)
                    clear hs7 hE7 hb70
                    go_wp2_with fail
                    go_meet
                    exact hm.out
                  · go_wp2_with fail
                    refine (next_any σ n7 _ _ hs7 (by omega) (by omega) (by omega)).mono ?_
                    rintro e w8 ⟨v, n8, rfl, ⟨ri, rfl, hri3, hri4⟩, hn13, hn14, hs8, hb8⟩
                    obtain ⟨hE8, hb80⟩ := EStep hσe hE7 hb70 (Kept.refl _ _) hb8
                    clear hE7 hs7 hb70 hb8 hs7l
                    clear w7
                    obtain ⟨w7, rfl⟩ : ∃ w7 : World, w7 = w8 := ⟨_, rfl⟩
                    have hE7 := hE8
                    have hs7 := hs8
                    have hb70 := hb80
                    have hs7l := hs7.lt
                    clear hE8 hs8 hb80
                    have hcs : ri = 0 ∨ ri = 1 ∨ ri = 2 ∨ ri = 3 := by omega
                    clear hri3 hri4
                    rcases hcs with rfl | rfl | rfl | rfl
                    · go_wp2_with fail
                      refine (some10_any σ n8 _ _ _ [⟨#[]⟩, ⟨#[65]⟩, ⟨#[112, 122]⟩] _ (hs7.keep (by repeat (first | with_reducible exact Kept.refl _ _ | with_reducible refine Kept.then_drew ?_ | with_reducible refine Kept.then_alloc ?_ _ | with_reducible refine Kept.then_drewN ?_ _))) (by omega) (Sl.lit_strs _ (by first | with_reducible exact Go.Proofs.YteanedcfiellkaaDoor.hp0 _ _ | with_reducible exact hd0 _ _ | with_reducible exact hdo _ _ _ | with_reducible exact hd1 _ _ _ | with_reducible exact hpo _ _ _ | with_reducible exact Go.Proofs.YteanedcfiellkaaDoor.hp1 _ _ _) (by rfl) (by omega)) (by simp) (by simp)).mono ?_
                      rintro e w8 ⟨v, n9, rfl, ⟨s, rfl, -, hz⟩, hn15, hn16, hs8, hb8⟩
                      obtain ⟨hE8, hb80⟩ := EStep hσe hE7 hb70 (by repeat (first | with_reducible exact Kept.refl _ _ | with_reducible refine Kept.then_drew ?_ | with_reducible refine Kept.then_alloc ?_ _ | with_reducible refine Kept.then_drewN ?_ _)) hb8
                      have hc8 := cell_at (i := 0) hE8 rfl
                      have hf8 := frozen_at (i := 0) hE8
                      have hm := Lib.hid (MakingE.put (n := n3) (c := 12) hσe h0e hE8 hs8 hb80 (by omega) (by omega) (j := 0) (v := .string s) { x with paper := s } rfl ⟨hz, hsm.2⟩)
                      clear hs8 hs7 hE8 hE7 hb8 hb80 hb70
                      go_wp2_with fail
                      go_meet
                      exact hm.out
                    · go_wp2_with fail
                      refine (odd10_any σ n8 1 2 _ hs7 (by omega) (by omega) (by omega) (by omega)).mono ?_
                      rintro e w8 ⟨v, n9, rfl, ⟨q, rfl, hq1, hq2⟩, hn15, hn16, hs8, hb8⟩
                      obtain ⟨hE8, hb80⟩ := EStep hσe hE7 hb70 (Kept.refl _ _) hb8
                      have hc8 := cell_at (i := 1) hE8 rfl
                      have hf8 := frozen_at (i := 1) hE8
                      have hm := Lib.hid (MakingE.put (n := n3) (c := 12) hσe h0e hE8 hs8 hb80 (by omega) (by omega) (j := 1) (v := .int .i64 q) { x with field := q } rfl ⟨hsm.1, ⟨hq1, hq2⟩, hsm.2.2⟩)
                      clear hs8 hs7 hE8 hE7 hb8 hb80 hb70
                      go_wp2_with fail
                      go_meet
                      exact hm.out
                    · go_wp2_with fail
                      refine (some10_any σ n8 _ _ _ [⟨#[]⟩, ⟨#[97, 110, 110]⟩, ⟨#[122, 101, 100]⟩, ⟨#[65]⟩] _ (hs7.keep (by repeat (first | with_reducible exact Kept.refl _ _ | with_reducible refine Kept.then_drew ?_ | with_reducible refine Kept.then_alloc ?_ _ | with_reducible refine Kept.then_drewN ?_ _))) (by omega) (Sl.lit_strs _ (by first | with_reducible exact Go.Proofs.YteanedcfiellkaaDoor.hp0 _ _ | with_reducible exact hd0 _ _ | with_reducible exact hdo _ _ _ | with_reducible exact hd1 _ _ _ | with_reducible exact hpo _ _ _ | with_reducible exact Go.Proofs.YteanedcfiellkaaDoor.hp1 _ _ _) (by rfl) (by omega)) (by simp) (by simp)).mono ?_
                      rintro e w8 ⟨v, n9, rfl, ⟨s, rfl, -, hz⟩, hn15, hn16, hs8, hb8⟩
                      obtain ⟨hE8, hb80⟩ := EStep hσe hE7 hb70 (by repeat (first | with_reducible exact Kept.refl _ _ | with_reducible refine Kept.then_drew ?_ | with_reducible refine Kept.then_alloc ?_ _ | with_reducible refine Kept.then_drewN ?_ _)) hb8
                      have hc8 := cell_at (i := 2) hE8 rfl
                      have hf8 := frozen_at (i := 2) hE8
                      have hm := Lib.hid (MakingE.put (n := n3) (c := 12) hσe h0e hE8 hs8 hb80 (by omega) (by omega) (j := 2) (v := .string s) { x with key := s } rfl ⟨hsm.1, hsm.2.1, hz, hsm.2.2.2⟩)
                      clear hs8 hs7 hE8 hE7 hb8 hb80 hb70
                      go_wp2_with fail
                      go_meet
                      exact hm.out
                    · have c4 := cell_at (i := 4) hE7 rfl
                      have hnw : x.new.size ≤ 1000000 := hsm.2.2.2.2
                      have hzA : [(⟨#[]⟩ : ByteArray), ⟨#[32, 97]⟩, x.new].all (fun s => decide (s.size ≤ 1000000)) = true := by
                        simp only [List.all_cons, List.all_nil, Bool.and_true, Bool.and_eq_true, decide_eq_true_eq]
                        exact ⟨by decide, by decide, hnw⟩
                      have hzB : [x.new, (⟨#[]⟩ : ByteArray)].all (fun s => decide (s.size ≤ 1000000)) = true := by
                        simp only [List.all_cons, List.all_nil, Bool.and_true, Bool.and_eq_true, decide_eq_true_eq]
                        exact ⟨hnw, by decide⟩
                      have hel7 := World.block_lt_of_cell? w7 _ c4
                      have tok1 : True := trivial
                      have hn3b : n3 ≤ 4611686018427200000 := by omega
                      have hne0 : w7.heap.size ≠ σ.b := by omega
                      have hne1 : w7.heap.size + 1 ≠ σ.b := by omega
                      clear hf hacc3 hbo3 hown hlen hn1 hn2 hn3 hn4 hri1 hri2 d0 h0 hce hcc hm1 hm2 hr1 hr2 hn hlf hwf hlt2 hk hz0 hz1 hF hcr3 hcl
                      go_wp2_with fail
                      go_region_law (first
                        | (go_simp; go_at_call 63; have _t := tok1; refine (some10_any σ n8 _ _ _ [⟨#[]⟩, ⟨#[32, 97]⟩, x.new] _ (hs7.keep (by repeat (first | with_reducible exact Kept.refl _ _ | with_reducible refine Kept.then_drew ?_ | with_reducible refine Kept.then_alloc ?_ _ | with_reducible refine Kept.then_drewN ?_ _))) (by omega) (Sl.lit_strs _ (by first | with_reducible exact Go.Proofs.YteanedcfiellkaaDoor.hp0 _ _ | with_reducible exact hd0 _ _ | with_reducible exact hdo _ _ _ | with_reducible exact hd1 _ _ _ | with_reducible exact hpo _ _ _ | with_reducible exact Go.Proofs.YteanedcfiellkaaDoor.hp1 _ _ _) (by rfl) (by omega) hzA) (by simp) (by simp)).mono ?_; rintro e w8 ⟨v, n9, rfl, ⟨s, rfl, -, hzs⟩, hn15, hn16, hs8, hb8⟩; clear tok1 _t; obtain ⟨hE8, hb80⟩ := EStep hσe hE7 hb70 (by repeat (first | with_reducible exact Kept.refl _ _ | with_reducible refine Kept.then_drew ?_ | with_reducible refine Kept.then_alloc ?_ _ | with_reducible refine Kept.then_drewN ?_ _)) hb8; have c84 := cell_at (i := 4) hE8 rfl; have hel8 := World.block_lt_of_cell? w8 _ c84; have hs8l := hs8.lt; first | (with_reducible have zs := zLate (Z := (.cells #[.string x.new, .string ⟨#[]⟩] 9)) hb8 hne1) | (with_reducible have zs := zEarly (Z := (.cells #[.string x.new, .string ⟨#[]⟩] 9)) hb8 hne0) | skip)
                        | (go_simp; go_at_call 63; refine (some10_any σ n9 _ _ _ [x.new, ⟨#[]⟩] _ (hs8.keep (by repeat (first | with_reducible exact Kept.refl _ _ | with_reducible refine Kept.then_drew ?_ | with_reducible refine Kept.then_alloc ?_ _ | with_reducible refine Kept.then_drewN ?_ _))) (by omega) (Sl.lit_strs _ (by first | with_reducible exact Go.Proofs.YteanedcfiellkaaDoor.hp0 _ _ | exact zs) (by rfl) (by omega) hzB) (by simp) (by simp)).mono ?_; rintro e w9 ⟨v, n10, rfl, ⟨t, rfl, -, hzt⟩, hn17, hn18, hs9, hb9⟩; obtain ⟨hE9, hb90⟩ := EStep hσe hE8 hb80 (by repeat (first | with_reducible exact Kept.refl _ _ | with_reducible refine Kept.then_drew ?_ | with_reducible refine Kept.then_alloc ?_ _ | with_reducible refine Kept.then_drewN ?_ _)) hb9; have e3 := cell_at (i := 3) hE9 rfl; have e4 := cell_at (i := 4) hE9 rfl; have f3 := frozen_at (i := 3) hE9; have f4 := frozen_at (i := 4) hE9))
                      all_goals
                        have hm := Lib.hid (MakingE.put2 (n := n3) (c := 12) hσe h0e hE9 hs9 hb90 (by omega) (by omega) hsm hzs hzt)
                        clear hs9 hs8 hs7 hE9 hE8 hE7 hb9 hb8 hb90 hb80 hb70
                        go_wp2_with fail
                        go_meet
                        exact hm.out.keep (by repeat (first | with_reducible exact Kept.refl _ _ | with_reducible refine Kept.then_drew ?_ | with_reducible refine Kept.then_alloc ?_ _ | with_reducible refine Kept.then_drewN ?_ _))
                case rest =>
                  clear hE7 hsm hs7 hb70 hnq1 hnq2 hn11 hn12 hs7l
                  clear x nq n7
                  have HC := hcut
                  clear hcut
                  obtain ⟨x, nq, hE, hsm, hsq, hnq1, hnq2, hbq⟩ := HC
                  obtain ⟨wq, rfl⟩ : ∃ wq : World, wq = wc := ⟨_, rfl⟩
                  have hsql := hsq.lt
                  have hEl : eb < wq.heap.size := by rcases Array.getElem?_eq_some_iff.1 hE with ⟨h, _⟩; exact h
                  have c3 := cell_at (i := 3) hE rfl
                  have c4 := cell_at (i := 4) hE rfl
                  go_upto_region 21 with fail
                  go_cut [107] (fun t wx => ∃ b : Bool, t = .bool b ∧ MakingE σ eb n3 13 w3 wx)
                  case first =>
                    by_cases hon : x.old = x.new
                    · have d1 : (x.old.toList == x.new.toList) = true := by simp [hon]
                      go_wp2_with fail
                      refine (flip_any σ nq _ _ hsq (by omega) (by omega) (by omega)).mono ?_
                      rintro e w5 ⟨v, n5, rfl, ⟨r, rfl⟩, hn15, hn16, hs5, hb5⟩
                      obtain ⟨hE5, hb50⟩ := EStep hσe hE hbq (Kept.refl _ _) hb5
                      have hm := Lib.hid (show MakingE σ eb n3 13 w3 w5 from ⟨x, n5, hE5, hsm, hs5, by omega, by omega, hb50⟩)
                      clear hsq hs5 hE hE5 hbq hb5 hb50
                      go_wp2_with fail
                      go_meet
                      exact ⟨_, rfl, hm.out⟩
                    · have d1 : (x.old.toList == x.new.toList) = false := by simp; exact fun e => hon (bytes_ext e)
                      have hm := Lib.hid (show MakingE σ eb n3 13 w3 wq from ⟨x, nq, hE, hsm, hsq, by omega, by omega, hbq⟩)
                      clear hsq hE hbq
                      go_wp2_with fail
                      go_meet
                      exact ⟨_, rfl, hm.out⟩
                  case rest =>
                    clear hE hsm hsq hbq hnq1 hnq2 hsql hEl c3 c4
                    clear x nq
                    obtain ⟨b, rfl, HC⟩ := hcut
                    go_upto_if 107 with fail
                    go_cut [] (fun wx => MakingE σ eb n3 13 w3 wx)
                    case first =>
                      cases b
                      · have hm := Lib.hid HC
                        go_wp2_with fail
                        go_meet
                        exact hm.out
                      · obtain ⟨x, nq, hE, hsm, hsq, hnq1, hnq2, hbq⟩ := HC
                        obtain ⟨wq, rfl⟩ : ∃ wq : World, wq = wc := ⟨_, rfl⟩
                        have hsql := hsq.lt
                        have hEl : eb < wq.heap.size := by rcases Array.getElem?_eq_some_iff.1 hE with ⟨h, _⟩; exact h
                        have c4 := cell_at (i := 4) hE rfl
                        have f4 := frozen_at (i := 4) hE
                        have hm := Lib.hid (MakingE.put (n := n3) (c := 13) hσe h0e hE hsq hbq (by omega) (by omega) (j := 4) (v := .string ⟨#[83, 111, 109, 101, 116, 104, 105, 110, 103, 32, 101, 108, 115, 101]⟩) { x with new := ⟨#[83, 111, 109, 101, 116, 104, 105, 110, 103, 32, 101, 108, 115, 101]⟩ } rfl ⟨hsm.1, hsm.2.1, hsm.2.2.1, hsm.2.2.2.1, by dsimp only; decide⟩)
                        clear hE hsq hbq
                        go_wp2_with fail
                        go_meet
                        exact hm.out
                    case rest =>
                      clear HC
                      have HC := hcut
                      clear hcut
                      obtain ⟨x, nq, hE, hsm, hsq, hnq1, hnq2, hbq⟩ := HC
                      obtain ⟨wq, rfl⟩ : ∃ wq : World, wq = wc := ⟨_, rfl⟩
                      have hsql := hsq.lt
                      have hEl : eb < wq.heap.size := by rcases Array.getElem?_eq_some_iff.1 hE with ⟨h, _⟩; exact h
                      have hacc5 : Acc RErr 5 124 (fun _ => False) w.heap.size wq (.slice ae k ce) es := by
                        have h5 := hacc3.keep RErr.ok hbq (fun _ h => h.elim) (fun k hk => by have := (hown k hk).1; omega)
                        rw [hlen] at h5
                        exact h5
                      have Hlen := Lib.hid hlen
                      have hln9 : (es ++ [x]).length = k + 1 := by simp; omega
                      have Hln9 := Lib.hid hln9
                      clear hlen hln9
                      have hbo5 : But σ.b w wq := hbo3.trans hbq
                      have e0 := cell_at (i := 0) hE rfl
                      have e1 := cell_at (i := 1) hE rfl
                      have e2 := cell_at (i := 2) hE rfl
                      have e3 := cell_at (i := 3) hE rfl
                      have e4 := cell_at (i := 4) hE rfl
                      have hsz5 := hbo5.size
                      clear hacc3 hbo3 hbq hE hF hcr3
                      go_wp2_with (at_builtin; refine wp_append1 RErr.ok _ rfl _ _ 57 rfl w.heap.size 124 (.agg #[.string ⟨#[]⟩, .int .i64 0, .string ⟨#[]⟩, .string ⟨#[]⟩, .string ⟨#[]⟩]) 5 72 Tryd.underlying57 (by kernel_rfl) rfl (by decide) (fun _ => False) _ es rfl (hacc5.keepAll RErr.ok (Kept.alloc _ _ _)) ⟨_, 0, none⟩ 1 [.string x.paper, .int .i64 x.field, .string x.key, .string x.old, .string x.new] rfl rfl (World.news_of_block (cs := #[.string x.paper, .int .i64 x.field, .string x.key, .string x.old, .string x.new]) (heap_alloc_new wq _)) (by simp [Value.oneCell']) x ⟨rfl, hsm⟩ (by have := Hlen.out; omega) (by decide) (by simp; omega) ?_)
                      intro p' c' w9 hacc9 hg9 _
                      have hbo9 : But σ.b w w9 := (hbo5.then_alloc _).grown hg9 (fun k hk => Or.inl (hacc5.lt k hk).1)
                      have hs9 : Str σ w9 nq := (hsq.keep (Kept.alloc _ _ _)).kept (Kept.grown (F := fun k => k ≤ σ.b) (Kept.refl _ _) hg9 (fun k hk => Or.inr (by have := (hacc5.lt k hk).1; omega))) (fun _ h => h)
                      clear hacc5 hg9 hbo5 hsq e0 e1 e2 e3 e4 hown hsz5
                      go_wp2_with fail
                      go_roundw
                      case rel => exact ⟨k + 1, _, nq, by omega, by go_num, hacc9, Hln9.out, hs9, by omega, by omega, hbo9⟩
                      case measure => simp [intOf]; omega
    · have hd : decide ((k : Int) < (rn : Int)) = false := by simp; omega
      go_wp2_with fail
      go_ret
      exact ⟨_, n', rfl, HEND.out, by omega, by omega, hsr, hbr⟩
end Go.Proofs.YteanedcfiellkaaDoor
