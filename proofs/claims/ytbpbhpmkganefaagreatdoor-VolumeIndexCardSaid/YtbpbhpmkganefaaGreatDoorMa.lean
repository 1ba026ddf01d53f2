/- CheckFinals answers finalsF. -/
import Derived.Test.YtbpbhpmkganefaaGreatDoorGf
import Derived.IntWalk
import Derived.Test.YtbpbhpmkganefaaGreatDoorKb
import Derived.Maps.OwnOps
import Derived.Maps.Views
import Derived.StringKeys
namespace Go.Proofs.YtbpbhpmkganefaaGreatDoor
open Go.RowKit

set_option maxRecDepth 100000 in
set_option maxHeartbeats 6400000 in
theorem checkFinals_any (a : Option Addr) (len cap : Nat) (xs : List Fin4) (w : World) (hs : Sl RFin 4 (fun _ => True) w a len xs) (hl : len ≤ 1000) (hg : Glob w) :
    Calls Tryz.prog 54 #[.slice a len cap] w fun e w' => e = .returned (.int .i64 (finalsF xs)) ∧ All w w' := by
  have hlen := hs.len
  by_cases h400 : 400 < len
  · have hfin := Lib.hid (finalsF_large (xs := xs) (by omega))
    have d1 : decide ((400 : Int) < (len : Int)) = true := by simp; omega
    rw [hfin.out]
    clear hlen
    go_enter Tryz.func54, Tryz.ntmps54
    go_wp2_with fail
    go_ret
    exact ⟨rfl, Kept.refl _ _⟩
  · have d1 : decide ((400 : Int) < (len : Int)) = false := by simp; omega
    rw [finalsF_some (xs := xs) (by omega)]
    have Hlen := Lib.hid hlen
    have HG := Lib.hid hg
    clear hlen hg
    go_enter Tryz.func54, Tryz.ntmps54
    go_wp2_with fail
    go_loopw [11] (fun i wr => ∃ k : Nat, k ≤ len ∧ i = .int .i64 k ∧ FinAt xs k ∧ All w wr) (fun i _ => len - (intOf i).toNat)
    case atStart => exact ⟨0, Nat.zero_le _, rfl, FinAt.zero _, Kept.refl _ _⟩
    case round =>
      obtain ⟨k, hk, rfl, hat, hall⟩ := hrel
      obtain ⟨wo, rfl⟩ : ∃ wo : World, wo = wr := ⟨_, rfl⟩
      by_cases hlt : k < len
      · have hso := hs.keep RFin.ok hall
        obtain ⟨b, off, x, ac, cc, ha, -, c0, c1, c2, c3, ⟨hz1, hz2, -, -, hcl⟩, hcc, hcr, hx, -, -⟩ := hso.atFin hlt
        subst ha
        have HA := Lib.hid hat
        have Hx := Lib.hid hx
        clear hat hx hs
        have hwa := hall.then_alloc (.cells #[.string x.paper, .string x.title, .int .i64 x.pages, .slice ac x.credits.length cc] 57)
        have hblk := heap_at wo (.cells #[.string x.paper, .string x.title, .int .i64 x.pages, .slice ac x.credits.length cc] 57) _ rfl
        have hcr' := hcr.keep RCred.ok (Kept.alloc (fun _ => True) wo (.cells #[.string x.paper, .string x.title, .int .i64 x.pages, .slice ac x.credits.length cc] 57))
        have e0 := cell_at (i := 0) hblk rfl
        have e1 := cell_at (i := 1) hblk rfl
        have e2 := cell_at (i := 2) hblk rfl
        have e3 := cell_at (i := 3) hblk rfl
        clear hblk hcr
        cases h1 : isKeyB x.paper with
        | false =>
          have hfin := Lib.hid (HA.out.bad Hx.out (finF_name h1) (by decide))
          clear hso
          go_wp2_with fail
          refine (isKey_any x.paper _ (by omega)).mono ?_
          rintro e w' ⟨rfl, rfl⟩
          rw [h1]
          go_wp2_with fail
          go_ret
          exact ⟨ret_int' hfin.out.symm, hwa⟩
        | true =>
          cases k with
          | zero =>
            have hord : ordB (lastP (xs.take 0)) x.paper = false := by rw [lastP_zero]; rfl
            rw [Nat.zero_mul, Nat.add_zero] at c0 c1 c2 c3
            clear hso
            cases h3 : lineB x.title 200 with
            | false =>
              have hfin := Lib.hid (HA.out.bad Hx.out (finF_form h1 hord h3) (by decide))
              go_wp2_with fail
              refine (isKey_any x.paper _ (by omega)).mono ?_
              rintro e w' ⟨rfl, rfl⟩
              rw [h1]
              go_wp2_with fail
              go_quiet (fail)
              go_wp2_with fail
              refine (isLine_any x.title 200 _ hz2 (HG.out.keep (hwa.then_drewN _))).mono ?_
              rintro e w2 ⟨rfl, hw2⟩
              have hw3 := (hwa.then_drewN _).trans hw2
              have g2 := hw2.cell (Kept.cell (F := fun _ => True) (Kept.drewN _ _ _) e2 trivial) trivial
              have g3 := hw2.cell (Kept.cell (F := fun _ => True) (Kept.drewN _ _ _) e3 trivial) trivial
              have hcr3 := (hcr'.keep RCred.ok (Kept.drewN _ _ _)).keep RCred.ok hw2
              rw [h3]
              go_wp2_with fail
              go_ret
              exact ⟨ret_int' hfin.out.symm, hw3⟩
            | true =>
              by_cases hpg : x.pages < 1 ∨ 100 < x.pages
              · have hfin := Lib.hid (HA.out.bad Hx.out (finF_arg h1 hord h3 hpg) (by decide))
                have h4 : decide (x.pages < 1 ∨ 100 < x.pages) = true := by simpa using hpg
                clear hpg
                go_wp2_with fail
                refine (isKey_any x.paper _ (by omega)).mono ?_
                rintro e w' ⟨rfl, rfl⟩
                rw [h1]
                go_wp2_with fail
                go_quiet (fail)
                go_wp2_with fail
                refine (isLine_any x.title 200 _ hz2 (HG.out.keep (hwa.then_drewN _))).mono ?_
                rintro e w2 ⟨rfl, hw2⟩
                have hw3 := (hwa.then_drewN _).trans hw2
                have g2 := hw2.cell (Kept.cell (F := fun _ => True) (Kept.drewN _ _ _) e2 trivial) trivial
                have g3 := hw2.cell (Kept.cell (F := fun _ => True) (Kept.drewN _ _ _) e3 trivial) trivial
                have hcr3 := (hcr'.keep RCred.ok (Kept.drewN _ _ _)).keep RCred.ok hw2
                rw [h3]
                go_wp2_with fail
                refine (outside_any _ _ _ _).mono ?_
                rintro e w' ⟨rfl, rfl⟩
                rw [h4]
                go_wp2_with fail
                go_ret
                exact ⟨ret_int' hfin.out.symm, hw3⟩
              · have h4 : decide (x.pages < 1 ∨ 100 < x.pages) = false := by simpa using hpg
                have hcf := finF_cred h1 hord h3 hpg
                clear hpg
                by_cases h5 : creditsF x.credits = 0
                · have d5 : (creditsF x.credits != 0) = false := by simp [h5]
                  have hnx := Lib.hid (HA.out.next Hx.out (hcf.trans h5))
                  clear hcf h5
                  go_wp2_with fail
                  refine (isKey_any x.paper _ (by omega)).mono ?_
                  rintro e w' ⟨rfl, rfl⟩
                  rw [h1]
                  go_wp2_with fail
                  go_quiet (fail)
                  go_wp2_with fail
                  refine (isLine_any x.title 200 _ hz2 (HG.out.keep (hwa.then_drewN _))).mono ?_
                  rintro e w2 ⟨rfl, hw2⟩
                  have hw3 := (hwa.then_drewN _).trans hw2
                  have g2 := hw2.cell (Kept.cell (F := fun _ => True) (Kept.drewN _ _ _) e2 trivial) trivial
                  have g3 := hw2.cell (Kept.cell (F := fun _ => True) (Kept.drewN _ _ _) e3 trivial) trivial
                  have hcr3 := (hcr'.keep RCred.ok (Kept.drewN _ _ _)).keep RCred.ok hw2
                  rw [h3]
                  go_wp2_with fail
                  refine (outside_any _ _ _ _).mono ?_
                  rintro e w' ⟨rfl, rfl⟩
                  rw [h4]
                  go_wp2_with fail
                  refine (creditsFault_any ac _ cc x.credits _ hcr3 hcl hcc (HG.out.keep hw3)).mono ?_
                  rintro e w5 ⟨rfl, hw5⟩
                  go_wp2_with fail
                  go_roundw
                  case rel => exact ⟨0 + 1, by omega, by go_num, hnx.out, hw3.trans hw5⟩
                  case measure => simp [intOf]; omega
                · have d5 : (creditsF x.credits != 0) = true := by simp [h5]
                  have hfin := Lib.hid (HA.out.bad Hx.out hcf h5)
                  clear hcf h5
                  go_wp2_with fail
                  refine (isKey_any x.paper _ (by omega)).mono ?_
                  rintro e w' ⟨rfl, rfl⟩
                  rw [h1]
                  go_wp2_with fail
                  go_quiet (fail)
                  go_wp2_with fail
                  refine (isLine_any x.title 200 _ hz2 (HG.out.keep (hwa.then_drewN _))).mono ?_
                  rintro e w2 ⟨rfl, hw2⟩
                  have hw3 := (hwa.then_drewN _).trans hw2
                  have g2 := hw2.cell (Kept.cell (F := fun _ => True) (Kept.drewN _ _ _) e2 trivial) trivial
                  have g3 := hw2.cell (Kept.cell (F := fun _ => True) (Kept.drewN _ _ _) e3 trivial) trivial
                  have hcr3 := (hcr'.keep RCred.ok (Kept.drewN _ _ _)).keep RCred.ok hw2
                  rw [h3]
                  go_wp2_with fail
                  refine (outside_any _ _ _ _).mono ?_
                  rintro e w' ⟨rfl, rfl⟩
                  rw [h4]
                  go_wp2_with fail
                  refine (creditsFault_any ac _ cc x.credits _ hcr3 hcl hcc (HG.out.keep hw3)).mono ?_
                  rintro e w5 ⟨rfl, hw5⟩
                  go_wp2_with fail
                  go_ret
                  exact ⟨ret_int' hfin.out.symm, hw3.trans hw5⟩
          | succ k =>
            obtain ⟨b', off', y, -, -, ha', -, p0, -, -, -, -, -, -, hy, -, -⟩ := hso.atFin (k := k) (by omega)
            cases ha'
            have hlp := lastP_succ hy
            have hbl : b < wo.heap.size := lt_of_cell p0
            clear hso hy
            cases hle : leB x.paper y.paper with
            | true =>
              have hord : ordB (lastP (xs.take (k + 1))) x.paper = true := by rw [hlp]; exact hle
              have hfin := Lib.hid (HA.out.bad Hx.out (finF_order h1 hord) (by decide))
              have hle' : (Op.bytesLess x.paper.toList y.paper.toList || x.paper.toList == y.paper.toList) = true := hle
              clear hord hlp hle
              go_wp2_with fail
              refine (isKey_any x.paper _ (by omega)).mono ?_
              rintro e w' ⟨rfl, rfl⟩
              rw [h1]
              go_wp2_with fail
              have q1 : IntKind.i64.wrap (k : Int) = (k : Int) := IntWalk.i64_in _ (by omega)
              have q3 : (0 : Int) ≤ (k : Int) := by omega
              have q4 : (k : Int) < (len : Int) := by omega
              go_quiet (fail)
              clear q1 q3 q4
              go_wp2_with fail
              go_ret
              exact ⟨ret_int' hfin.out.symm, hwa.then_drewN _⟩
            | false =>
              have hord : ordB (lastP (xs.take (k + 1))) x.paper = false := by rw [hlp]; exact hle
              have hle' : (Op.bytesLess x.paper.toList y.paper.toList || x.paper.toList == y.paper.toList) = false := hle
              clear hlp hle
              cases h3 : lineB x.title 200 with
              | false =>
                have hfin := Lib.hid (HA.out.bad Hx.out (finF_form h1 hord h3) (by decide))
                go_wp2_with fail
                refine (isKey_any x.paper _ (by omega)).mono ?_
                rintro e w' ⟨rfl, rfl⟩
                rw [h1]
                go_wp2_with fail
                have q1 : IntKind.i64.wrap (k : Int) = (k : Int) := IntWalk.i64_in _ (by omega)
                have q3 : (0 : Int) ≤ (k : Int) := by omega
                have q4 : (k : Int) < (len : Int) := by omega
                go_quiet (fail)
                clear q1 q3 q4
                go_wp2_with fail
                refine (isLine_any x.title 200 _ hz2 (HG.out.keep (hwa.then_drewN _))).mono ?_
                rintro e w2 ⟨rfl, hw2⟩
                have hw3 := (hwa.then_drewN _).trans hw2
                have g2 := hw2.cell (Kept.cell (F := fun _ => True) (Kept.drewN _ _ _) e2 trivial) trivial
                have g3 := hw2.cell (Kept.cell (F := fun _ => True) (Kept.drewN _ _ _) e3 trivial) trivial
                have hcr3 := (hcr'.keep RCred.ok (Kept.drewN _ _ _)).keep RCred.ok hw2
                rw [h3]
                go_wp2_with fail
                go_ret
                exact ⟨ret_int' hfin.out.symm, hw3⟩
              | true =>
                by_cases hpg : x.pages < 1 ∨ 100 < x.pages
                · have hfin := Lib.hid (HA.out.bad Hx.out (finF_arg h1 hord h3 hpg) (by decide))
                  have h4 : decide (x.pages < 1 ∨ 100 < x.pages) = true := by simpa using hpg
                  clear hpg
                  go_wp2_with fail
                  refine (isKey_any x.paper _ (by omega)).mono ?_
                  rintro e w' ⟨rfl, rfl⟩
                  rw [h1]
                  go_wp2_with fail
                  have q1 : IntKind.i64.wrap (k : Int) = (k : Int) := IntWalk.i64_in _ (by omega)
                  have q3 : (0 : Int) ≤ (k : Int) := by omega
                  have q4 : (k : Int) < (len : Int) := by omega
                  go_quiet (fail)
                  clear q1 q3 q4
                  go_wp2_with fail
                  refine (isLine_any x.title 200 _ hz2 (HG.out.keep (hwa.then_drewN _))).mono ?_
                  rintro e w2 ⟨rfl, hw2⟩
                  have hw3 := (hwa.then_drewN _).trans hw2
                  have g2 := hw2.cell (Kept.cell (F := fun _ => True) (Kept.drewN _ _ _) e2 trivial) trivial
                  have g3 := hw2.cell (Kept.cell (F := fun _ => True) (Kept.drewN _ _ _) e3 trivial) trivial
                  have hcr3 := (hcr'.keep RCred.ok (Kept.drewN _ _ _)).keep RCred.ok hw2
                  rw [h3]
                  go_wp2_with fail
                  refine (outside_any _ _ _ _).mono ?_
                  rintro e w' ⟨rfl, rfl⟩
                  rw [h4]
                  go_wp2_with fail
                  go_ret
                  exact ⟨ret_int' hfin.out.symm, hw3⟩
                · have h4 : decide (x.pages < 1 ∨ 100 < x.pages) = false := by simpa using hpg
                  have hcf := finF_cred h1 hord h3 hpg
                  clear hpg
                  by_cases h5 : creditsF x.credits = 0
                  · have d5 : (creditsF x.credits != 0) = false := by simp [h5]
                    have hnx := Lib.hid (HA.out.next Hx.out (hcf.trans h5))
                    clear hcf h5
                    go_wp2_with fail
                    refine (isKey_any x.paper _ (by omega)).mono ?_
                    rintro e w' ⟨rfl, rfl⟩
                    rw [h1]
                    go_wp2_with fail
                    have q1 : IntKind.i64.wrap (k : Int) = (k : Int) := IntWalk.i64_in _ (by omega)
                    have q3 : (0 : Int) ≤ (k : Int) := by omega
                    have q4 : (k : Int) < (len : Int) := by omega
                    go_quiet (fail)
                    clear q1 q3 q4
                    go_wp2_with fail
                    refine (isLine_any x.title 200 _ hz2 (HG.out.keep (hwa.then_drewN _))).mono ?_
                    rintro e w2 ⟨rfl, hw2⟩
                    have hw3 := (hwa.then_drewN _).trans hw2
                    have g2 := hw2.cell (Kept.cell (F := fun _ => True) (Kept.drewN _ _ _) e2 trivial) trivial
                    have g3 := hw2.cell (Kept.cell (F := fun _ => True) (Kept.drewN _ _ _) e3 trivial) trivial
                    have hcr3 := (hcr'.keep RCred.ok (Kept.drewN _ _ _)).keep RCred.ok hw2
                    rw [h3]
                    go_wp2_with fail
                    refine (outside_any _ _ _ _).mono ?_
                    rintro e w' ⟨rfl, rfl⟩
                    rw [h4]
                    go_wp2_with fail
                    refine (creditsFault_any ac _ cc x.credits _ hcr3 hcl hcc (HG.out.keep hw3)).mono ?_
                    rintro e w5 ⟨rfl, hw5⟩
                    go_wp2_with fail
                    go_roundw
                    case rel => exact ⟨k + 1 + 1, by omega, by go_num, hnx.out, hw3.trans hw5⟩
                    case measure => simp [intOf]; omega
                  · have d5 : (creditsF x.credits != 0) = true := by simp [h5]
                    have hfin := Lib.hid (HA.out.bad Hx.out hcf h5)
                    clear hcf h5
                    go_wp2_with fail
                    refine (isKey_any x.paper _ (by omega)).mono ?_
                    rintro e w' ⟨rfl, rfl⟩
                    rw [h1]
                    go_wp2_with fail
                    have q1 : IntKind.i64.wrap (k : Int) = (k : Int) := IntWalk.i64_in _ (by omega)
                    have q3 : (0 : Int) ≤ (k : Int) := by omega
                    have q4 : (k : Int) < (len : Int) := by omega
                    go_quiet (fail)
                    clear q1 q3 q4
                    go_wp2_with fail
                    refine (isLine_any x.title 200 _ hz2 (HG.out.keep (hwa.then_drewN _))).mono ?_
                    rintro e w2 ⟨rfl, hw2⟩
                    have hw3 := (hwa.then_drewN _).trans hw2
                    have g2 := hw2.cell (Kept.cell (F := fun _ => True) (Kept.drewN _ _ _) e2 trivial) trivial
                    have g3 := hw2.cell (Kept.cell (F := fun _ => True) (Kept.drewN _ _ _) e3 trivial) trivial
                    have hcr3 := (hcr'.keep RCred.ok (Kept.drewN _ _ _)).keep RCred.ok hw2
                    rw [h3]
                    go_wp2_with fail
                    refine (outside_any _ _ _ _).mono ?_
                    rintro e w' ⟨rfl, rfl⟩
                    rw [h4]
                    go_wp2_with fail
                    refine (creditsFault_any ac _ cc x.credits _ hcr3 hcl hcc (HG.out.keep hw3)).mono ?_
                    rintro e w5 ⟨rfl, hw5⟩
                    go_wp2_with fail
                    go_ret
                    exact ⟨ret_int' hfin.out.symm, hw3.trans hw5⟩
      · have hd : decide ((k : Int) < (len : Int)) = false := by simp; omega
        have hfin := Lib.hid (hat.ok (by have := Hlen.out; omega))
        go_wp2_with fail
        go_ret
        exact ⟨ret_int' hfin.out.symm, hall⟩
end Go.Proofs.YtbpbhpmkganefaaGreatDoor

/- A map[string]bool of the call's own, used as a set of strings. No program in sight. -/
namespace Go.Proofs.YtbpbhpmkganefaaGreatDoor
open Go.RowKit
open Go.Maps (Keyed IsMap)

/-- Block b is a map[string]bool of at most n entries; it says true of the strings ks alone. -/
def SetM (P : Program) (k e : TypeId) (w : World) (b n : Nat) (ks : List ByteArray) : Prop :=
  ∃ D : DataW Unit, w.ownsMap P k (plainElem P e) b n D ∧ IsMap D ∧ ∀ s : ByteArray, D.atKey (.string s.data.toList) (.lit (.bool false)) = .lit (.bool (memB s ks))

theorem plainElem_bool_inv {P : Program} {e : TypeId} (he : P.underlying e = some .bool) {v : Value} {z : DataW Unit × List MemPlace} (h : plainElem P e v = some z) : ∃ x, v = .bool x ∧ z = (.lit (.bool x), []) := by
  unfold plainElem at h
  rw [he] at h
  cases v <;> simp at h
  exact ⟨_, rfl, h.symm⟩

section
variable {P : Program} {k e t : TypeId} {w w' : World} {b n : Nat} {ks : List ByteArray}

theorem SetM.made (P : Program) (k e : TypeId) (w : World) : SetM P k e (w.alloc (.map #[] 0)) w.heap.size 0 [] :=
  ⟨.map [], World.ownsMap_made _ _ _ _, Go.Maps.isMap_empty, fun _ => rfl⟩
theorem SetM.lt (h : SetM P k e w b n ks) : b < w.heap.size := by
  obtain ⟨D, h1, _⟩ := h
  exact h1.lt
theorem SetM.keep {F : Nat → Prop} (h : SetM P k e w b n ks) (hk : Kept F w w') (hF : F b) : SetM P k e w' b n ks := by
  have hl := h.lt
  obtain ⟨D, ⟨es, clock, hb, F', hs, hD⟩, h2, h3⟩ := h
  exact ⟨D, ⟨es, clock, (hk.block b hl hF).trans hb, F', hs, hD⟩, h2, h3⟩
theorem SetM.look (h : SetM P k e w b n ks) (hk : P.underlying k = some .string) (he : P.underlying e = some .bool) (ht : P.underlying t = some (.map k e)) (hz : (zeroValue e).run P w = .ok (.bool false) w) (s : ByteArray) (hs : s.size ≤ 1000000) :
    (Instr.lookup t (.map (some b)) (.string s) false).run P w = .ok (.bool (memB s ks)) w := by
  obtain ⟨D, h1, _, h3⟩ := h
  obtain ⟨v, ps, hrun, hv⟩ := h1.lookup (Go.Maps.string_keyed hk) ht hz (plainElem_bool he false) (Go.WideMaps.keyOf_string_mk hk (show s.size ≤ maxLen by unfold maxLen; omega))
  obtain ⟨x, rfl, hx⟩ := plainElem_bool_inv he hv
  rw [hrun]
  have := congrArg Prod.fst hx
  simp only [h3 s] at this
  injection this with this
  injection this with this
  rw [this]
theorem SetM.put (h : SetM P k e w b n ks) (hk : P.underlying k = some .string) (he : P.underlying e = some .bool) (ht : P.underlying t = some (.map k e)) (hn : n ≤ 1000000) (s : ByteArray) (hs : s.size ≤ 1000000) :
    ∃ w', (Instr.mapUpdate t (.map (some b)) (.string s) (.bool true)).run P w = .ok () w' ∧ SetM P k e w' b (n + 1) (ks ++ [s]) ∧ But b w w' := by
  obtain ⟨D, h1, h2, h3⟩ := h
  obtain ⟨w', hrun, h4, hg⟩ := h1.update (Go.Maps.string_keyed hk) ht (show n < maxLen by unfold maxLen; omega) (Go.WideMaps.keyOf_string_mk hk (show s.size ≤ maxLen by unfold maxLen; omega)) (plainElem_bool he true)
  refine ⟨w', hrun, ⟨_, h4, h2.put _ _, fun x => ?_⟩, (Kept.refl _ _).grown hg (fun k hk => by cases hk; exact Or.inr (by simp))⟩
  by_cases hx : x = s
  · subst hx
    rw [Go.Maps.atKey_put_same h2 (show WideAt.IsKeyLit (.string x.data.toList) by simp [WideAt.IsKeyLit]), memB_true (by simp)]
  · rw [Go.Maps.atKey_put_other (fun e => hx (Go.WideShapes.bytes_inj (by injection e))), h3 x]
    congr 2
    unfold memB
    rw [List.any_append]
    have hd : decide (s = x) = false := by simpa using fun e => hx e.symm
    simp [hd]
end
end Go.Proofs.YtbpbhpmkganefaaGreatDoor
