/- Nudges; NudgesOf. -/
import Derived.Test.YthhmgblcccbdaaaGreatDoorRw
namespace Go.Proofs.YthhmgblcccbdaaaGreatDoor
open Go.RowKit

theorem due_ok {s : Set7} (h : setupF s = 0) : 0 ≤ s.due ∧ s.due ≤ 5761440 := by
  obtain ⟨h1, h2, h3, h4⟩ := setupF_good h
  rw [setupF_ok4 h1 h2 h3 h4] at h
  split at h
  · omega
  · split at h
    · omega
    · split at h
      · rename_i h5; exact absurd h h5
      · split at h
        · omega
        · omega
theorem atE_setup {s : Set7} {xs : List Rev} {tm : Int} (h : atE s xs tm = 0) : setupF s = 0 ∧ 0 ≤ tm ∧ tm < 5761440 := by
  by_cases h0 : revsF s xs = 0
  · refine ⟨?_, ?_⟩
    · apply Classical.byContradiction
      intro hs
      rw [revsF_setup hs] at h0
      exact hs h0
    · rw [atE_2 h0] at h
      by_cases h3 : 0 ≤ tm ∧ tm < 5761440
      · exact h3
      · rw [if_neg h3] at h; omega
  · rw [atE_1 h0] at h; exact absurd h h0
/-- A day out of range; a day on which it is time. -/
def badD (d : Int) : Bool := decide (d < -4000 ∨ 4000 < d)
def hitD (s : Set7) (tm d : Int) : Bool := decide (tm = s.due - d * 1440)
noncomputable def nudE (s : Set7) (xs : List Rev) (ds : List Int) (tm : Int) : Int := if atE s xs tm ≠ 0 then atE s xs tm else if 10 < ds.length then 2 else if ds.any badD = true then 1 else 0
/-- Pairs whose reviews are not done. -/
noncomputable def nudL (s : Set7) (ts : List Raw) (tm : Int) (ps : List Pair2) : List Pair2 := ps.filter (fun p => decide (standF s ts (p.paper, p.person) tm ≠ 3))
noncomputable def nudF (s : Set7) (ts : List Raw) (ds : List Int) (tm : Int) : List Pair2 := if ds.any (hitD s tm) = true then nudL s ts tm s.pairs else []
theorem nudL_snoc {s : Set7} {ts : List Raw} {tm : Int} {ps : List Pair2} {k : Nat} {y : Pair2} (h : ps.take (k + 1) = ps.take k ++ [y]) : nudL s ts tm (ps.take (k + 1)) = if standF s ts (y.paper, y.person) tm = 3 then nudL s ts tm (ps.take k) else nudL s ts tm (ps.take k) ++ [y] := by
  rw [h, nudL, List.filter_append]
  by_cases h3 : standF s ts (y.paper, y.person) tm = 3
  · rw [if_pos h3]; simp [nudL, h3]
  · rw [if_neg h3]; simp [nudL, h3]
theorem nudL_len (s : Set7) (ts : List Raw) (tm : Int) (ps : List Pair2) : (nudL s ts tm ps).length ≤ ps.length := List.length_filter_le _ _
/-- Pairs, or nothing and an error. -/
def NudV (er : Int) (xs : List Pair2) (e : Ending) (w' : World) : Prop :=
  (er = 0 → ∃ (p : Option Addr) (c : Nat), e = .returned (.tuple #[.slice p xs.length c, .int .i64 0]) ∧ Sl RPair 2 (fun _ => True) w' p xs.length xs) ∧ (er ≠ 0 → e = .returned (.tuple #[.slice none 0 0, .int .i64 er]))
theorem NudV.bad {er : Int} {xs : List Pair2} {w' : World} (h : er ≠ 0) : NudV er xs (.returned (.tuple #[.slice none 0 0, .int .i64 er])) w' := ⟨fun h0 => absurd h0 h, fun _ => rfl⟩
theorem pairSl {B : Nat} {w : World} {v : Value} {xs : List Pair2} (h : Acc RPair 2 38 (fun _ => False) B w v xs) : ∃ (p : Option Addr) (c : Nat), v = .slice p xs.length c ∧ Sl RPair 2 (fun _ => True) w p xs.length xs := by
  obtain ⟨p, c, hv, h1⟩ := h.sl RPair.ok (by decide) (G := fun _ => True) (fun _ h => h.elim) (fun _ _ => trivial)
  exact ⟨p, c, hv, h1⟩

/-- Function value g with what it has captured answers p of the numbers of a list. -/
def AnswersI (P : Program) (g : FuncId) (caps : Array Value) (w : World) (ss : List Int) (p : Int → Bool) : Prop :=
  ∀ y ∈ ss, ∀ wx : World, All w wx → Calls P g (#[.int .i64 y] ++ caps) wx fun e w' => e = .returned (.bool (p y)) ∧ All wx w'
set_option maxHeartbeats 1600000 in
theorem indexFuncI_any (g : FuncId) (caps : Array Value) (eg : ∀ args w, (callFunc g args).run Tryz.prog w = .ok (.enter g args) w) (p : Int → Bool)
    (a : Option Addr) (len cap : Nat) (ss : List Int) (w : World) (hs : Sl RInt 1 (fun _ => True) w a len ss) (hl : len ≤ 1000000) (hp : AnswersI Tryz.prog g caps w ss p) :
    Calls Tryz.prog 105 #[.slice a len cap, .func (.func g) #[] caps] w fun e w' => e = .returned (.int .i64 (findG p 0 ss)) ∧ All w w' := by
  have hlen := hs.len
  have HP := Lib.hid hp
  clear hp
  go_enter Tryz.func105, Tryz.ntmps105
  go_wp2
  go_loopw [5, 8] (fun _ i wr => ∃ k : Nat, k ≤ len ∧ i = .int .i64 k ∧ (ss.take k).any p = false ∧ All w wr) (fun _ i _ => len - (intOf i).toNat)
  case atStart => exact ⟨0, Nat.zero_le _, rfl, by simp, Kept.refl _ _⟩
  case round =>
    obtain ⟨k, hk, rfl, hnot, hall⟩ := hrel
    by_cases hlt : k < len
    · obtain ⟨b, off, y, ha, -, c0, hy, -, htake⟩ := (hs.keep RInt.ok hall).atInt hlt
      have hmem : y ∈ ss := List.mem_of_getElem? hy
      have hltake : (ss.take k).length = k := by simp; omega
      have hsplit : ss = ss.take k ++ y :: ss.drop (k + 1) := by rw [← drop_at hy, List.take_append_drop]
      have Hsplit := Lib.hid hsplit
      have Htake := Lib.hid htake
      have Hl := Lib.hid hltake
      have Hnot := Lib.hid hnot
      have Hmem := Lib.hid hmem
      clear hsplit htake hltake hlen hnot hy hmem
      subst ha
      clear hs
      cases hpy : p y with
      | true =>
        have hfin : findG p 0 ss = k := by rw [Hsplit.out, findG_append Hnot.out, Hl.out, findG, if_pos hpy]; simp
        have Hfin := Lib.hid hfin
        clear hfin
        go_wp2_with fail
        refine (HP.out y Hmem.out _ hall).mono ?_
        rintro e w' ⟨rfl, hw⟩
        rw [hpy]
        go_wp2_with fail
        go_ret
        exact ⟨ret_int' Hfin.out.symm, hall.trans hw⟩
      | false =>
        go_wp2_with fail
        refine (HP.out y Hmem.out _ hall).mono ?_
        rintro e w' ⟨rfl, hw⟩
        rw [hpy]
        go_wp2_with fail
        go_roundw
        case rel => exact ⟨k + 1, by omega, by go_num, by rw [Htake.out, List.any_append, Hnot.out]; simp [hpy], hall.trans hw⟩
        case measure => simp [intOf]; omega
    · have hd : decide ((k : Int) < (len : Int)) = false := by simp; omega
      have hfin : findG p 0 ss = -1 := findG_neg (by rw [List.take_of_length_le (by omega)] at hnot; exact hnot)
      have Hfin := Lib.hid hfin
      clear hfin
      go_wp2
      go_ret
      exact ⟨ret_int' Hfin.out.symm, hall⟩
theorem containsFuncI_any (g : FuncId) (caps : Array Value) (eg : ∀ args w, (callFunc g args).run Tryz.prog w = .ok (.enter g args) w) (p : Int → Bool)
    (a : Option Addr) (len cap : Nat) (ss : List Int) (w : World) (hs : Sl RInt 1 (fun _ => True) w a len ss) (hl : len ≤ 1000000) (hp : AnswersI Tryz.prog g caps w ss p) :
    Calls Tryz.prog 66 #[.slice a len cap, .func (.func g) #[] caps] w fun e w' => e = .returned (.bool (ss.any p)) ∧ All w w' := by
  have hI := Lib.hid (indexFuncI_any g caps eg p a len cap ss w hs hl hp)
  clear hp
  cases hx : ss.any p with
  | true =>
    have h0 := findG_nonneg (k := 0) hx
    clear hx
    go_enter Tryz.func66, Tryz.ntmps66
    go_wp2_with fail
    refine hI.out.mono ?_
    rintro e w' ⟨rfl, hw⟩
    go_wp2
    go_ret
    exact ⟨rfl, hw⟩
  | false =>
    have h0 := findG_neg (k := 0) hx
    clear hx
    go_enter Tryz.func66, Tryz.ntmps66
    go_wp2_with fail
    refine hI.out.mono ?_
    rintro e w' ⟨rfl, hw⟩
    rw [h0]
    go_wp2
    go_ret
    exact ⟨rfl, hw⟩
theorem nud1_any (s : Set7) (tb bb : Nat) (tm d : Int) (w : World) (ct : w.cell? ⟨tb, 0, none⟩ = some (.int .i64 tm)) (cb : w.cell? ⟨bb, 5, none⟩ = some (.int .i64 s.due)) (h1 : 0 ≤ tm ∧ tm < 5761440) (h2 : -4000 ≤ d ∧ d ≤ 4000) :
    Calls Tryz.prog 67 #[.int .i64 d, .pointer (some ⟨tb, 0, none⟩), .pointer (some ⟨bb, 0, none⟩)] w fun e w' => e = .returned (.bool (hitD s tm d)) ∧ All w w' := by
  have f1 : IntKind.i64.wrap (d * 1440) = d * 1440 := IntWalk.i64_in _ (by omega)
  have f2 : IntKind.i64.wrap (tm + d * 1440) = tm + d * 1440 := IntWalk.i64_in _ (by omega)
  obtain ⟨r, hr⟩ : ∃ r, r = hitD s tm d := ⟨_, rfl⟩
  have hd : (tm + d * 1440 == s.due) = r := by
    rw [hr, hitD]
    by_cases h : tm = s.due - d * 1440
    · rw [decide_eq_true h]; simp; omega
    · rw [decide_eq_false h]; simp; omega
  rw [← hr]
  clear h1 h2 hr
  go_enter Tryz.func67, Tryz.ntmps67
  go_wp2_with fail
  go_ret
  exact ⟨by simp, Kept.refl _ _⟩

set_option maxRecDepth 100000 in
set_option maxHeartbeats 12800000 in
theorem nudges_any (a0 : Option Addr) (l0 c0 : Nat) (a1 : Option Addr) (l1 c1 : Nat) (a2 : Option Addr) (l2 c2 : Nat) (a3 : Option Addr) (l3 c3 : Nat) (a4 : Option Addr) (l4 c4 : Nat) (s : Set7) (al : Option Addr) (ll cl : Nat) (xs : List Rev) (ts : List Raw) (ad : Option Addr) (ld cd : Nat) (ds : List Int) (tm : Int) (w : World) (his : SetIs (fun _ => True) w a0 l0 a1 l1 a2 l2 a3 l3 a4 l4 s) (hsx : Sl RRev 7 (fun _ => True) w al ll xs) (hst : Sl RRaw 7 (fun _ => True) w al ll ts) (hl : ll ≤ 1000000) (hlc : ll ≤ cl) (hsd : Sl RInt 1 (fun _ => True) w ad ld ds) (hld : ld ≤ 1000000) (hg : Glob w) :
    Calls Tryz.prog 25 #[.agg #[.slice a0 l0 c0, .slice a1 l1 c1, .slice a2 l2 c2, .slice a3 l3 c3, .slice a4 l4 c4, .int .i64 s.due, .int .i64 s.reply], .slice al ll cl, .slice ad ld cd, .int .i64 tm] w fun e w' => NudV (nudE s xs ds tm) (nudF s ts ds tm) e w' ∧ All w w' := by
  have hk1 : All w (w.alloc (.cells #[.slice a0 l0 c0, .slice a1 l1 c1, .slice a2 l2 c2, .slice a3 l3 c3, .slice a4 l4 c4, .int .i64 s.due, .int .i64 s.reply] 31)) := Kept.alloc _ _ _
  have hb := heap_at w (.cells #[.slice a0 l0 c0, .slice a1 l1 c1, .slice a2 l2 c2, .slice a3 l3 c3, .slice a4 l4 c4, .int .i64 s.due, .int .i64 s.reply] 31) _ rfl
  obtain ⟨bb, hbb⟩ : ∃ b, b = w.heap.size := ⟨_, rfl⟩
  have HBB := Lib.hid hbb
  rw [← hbb] at hb
  have HBL := Lib.hid (fun (wx : World) (k : All (w.alloc (.cells #[.slice a0 l0 c0, .slice a1 l1 c1, .slice a2 l2 c2, .slice a3 l3 c3, .slice a4 l4 c4, .int .i64 s.due, .int .i64 s.reply] 31)) wx) => k.heap hb trivial)
  have HAT := Lib.hid (at_any a0 l0 c0 a1 l1 c1 a2 l2 c2 a3 l3 c3 a4 l4 c4 s al ll cl xs ts tm _ (his.keep hk1) (hsx.keep RRev.ok hk1) (hst.keep RRaw.ok hk1) hl hlc (hg.keep hk1))
  have HPS := Lib.hid (fun (wx : World) (k : All (w.alloc (.cells #[.slice a0 l0 c0, .slice a1 l1 c1, .slice a2 l2 c2, .slice a3 l3 c3, .slice a4 l4 c4, .int .i64 s.due, .int .i64 s.reply] 31)) wx) => his.pairs.keep RPair.ok (hk1.trans k))
  have HDS := Lib.hid (fun (wx : World) (k : All (w.alloc (.cells #[.slice a0 l0 c0, .slice a1 l1 c1, .slice a2 l2 c2, .slice a3 l3 c3, .slice a4 l4 c4, .int .i64 s.due, .int .i64 s.reply] 31)) wx) => hsd.keep RInt.ok (hk1.trans k))
  have HPL := Lib.hid his.pairs.len
  have HDL := Lib.hid hsd.len
  have hl2 := his.n2
  have HTL := Lib.hid hst.len
  obtain ⟨er, her⟩ : ∃ z, z = atE s xs tm := ⟨_, rfl⟩
  have HEQ := Lib.hid (fun (h : er = 0) => atE_setup (s := s) (xs := xs) (tm := tm) (her.symm.trans h))
  have HNE := Lib.hid (show nudE s xs ds tm = if er ≠ 0 then er else if 10 < ds.length then 2 else if ds.any badD = true then 1 else 0 from by rw [nudE, her])
  rw [← her] at HAT
  obtain ⟨ne, hne⟩ : ∃ z, z = nudE s xs ds tm := ⟨_, rfl⟩
  have HNE2 := Lib.hid hne
  rw [← hne]
  have HK1 := Lib.hid hk1
  have e0 := cell_at (i := 0) hb rfl
  have e1 := cell_at (i := 1) hb rfl
  have e2 := cell_at (i := 2) hb rfl
  have e3 := cell_at (i := 3) hb rfl
  have e4 := cell_at (i := 4) hb rfl
  have e5 := cell_at (i := 5) hb rfl
  have e6 := cell_at (i := 6) hb rfl
  clear her hne hbb hb his hsx hst hsd hg hk1
  go_enter Tryz.func25, Tryz.ntmps25
  go_upto_region 1 with fail
  simp only [← HBB.out]
  generalize w.alloc (.cells #[.slice a0 l0 c0, .slice a1 l1 c1, .slice a2 l2 c2, .slice a3 l3 c3, .slice a4 l4 c4, .int .i64 s.due, .int .i64 s.reply] 31) = w1 at *
  go_wp2_with fail
  refine HAT.out.mono ?_
  rintro e w2 ⟨hv, hw2⟩
  clear e0 e1 e2 e3 e4 e5 e6
  by_cases h0 : er = 0
  case neg =>
    obtain rfl := hv.2 h0
    have hd : (er != 0) = true := by simpa using h0
    have HN := Lib.hid (show ne = er from by rw [HNE2.out, HNE.out, if_pos h0])
    have H0 := Lib.hid h0
    clear h0 hv
    go_wp2_with fail
    go_ret2
    exact ⟨by rw [HN.out]; exact NudV.bad H0.out, HK1.out.trans hw2⟩
  case pos =>
    subst h0
    have hd : ((0 : Int) != 0) = false := rfl
    obtain ⟨kb, rfl, hbk⟩ := hv.1 rfl
    have HBK := Lib.hid hbk
    obtain ⟨hsu, htm1, htm2⟩ := HEQ.out rfl
    obtain ⟨hdu1, hdu2⟩ := due_ok hsu
    clear hv hbk hsu
    by_cases h10 : 10 < ld
    case pos =>
      have hd2 : decide ((10 : Int) < (ld : Int)) = true := by simp; omega
      have HN := Lib.hid (show ne = 2 from by rw [HNE2.out, HNE.out, if_neg (by simp), if_pos (by have := HDL.out; omega)])
      go_wp2_with fail
      go_ret2
      exact ⟨by rw [HN.out]; exact NudV.bad (by decide), HK1.out.trans hw2⟩
    case neg =>
      have hd2 : decide ((10 : Int) < (ld : Int)) = false := by simp; omega
      have HN := Lib.hid (show ne = if ds.any badD = true then 1 else 0 from by rw [HNE2.out, HNE.out, if_neg (by simp), if_neg (by have := HDL.out; omega)])
      clear h10
      go_wp2_with fail
      go_loopw [12, 33] (fun g i wr => ∃ k : Nat, k ≤ ld ∧ i = .int .i64 k ∧ g = .bool ((ds.take k).any (hitD s tm)) ∧ (ds.take k).any badD = false ∧ wr = w2) (fun _ i _ => ld - (intOf i).toNat)
      case atStart => exact ⟨0, Nat.zero_le _, rfl, rfl, by simp, rfl⟩
      case round =>
        obtain ⟨k, hk, rfl, rfl, hnb, rfl⟩ := hrel
        obtain ⟨now, hnow⟩ : ∃ b, b = (ds.take k).any (hitD s tm) := ⟨_, rfl⟩
        have HNOW := Lib.hid hnow
        have HNB := Lib.hid hnb
        rw [← hnow]
        clear hnow hnb
        by_cases hlt : k < ld
        · obtain ⟨b, off, d, ha, -, c0, hy, -, htk⟩ := (HDS.out wr hw2).atInt hlt
          have HMD := Lib.hid (List.mem_of_getElem? hy)
          have HTK := Lib.hid htk
          subst ha
          clear htk hy
          by_cases hbad : d < -4000 ∨ 4000 < d
          case pos =>
            have HN1 := Lib.hid (show ne = 1 from by rw [HN.out, if_pos]; exact List.any_eq_true.2 ⟨d, HMD.out, by simpa [badD] using hbad⟩)
            have hdb : decide (d < -4000 ∨ 4000 < d) = true := decide_eq_true hbad
            clear hbad
            go_wp2_with fail
            refine (outside_any d (-4000) 4000 _).mono ?_
            rintro e w' ⟨rfl, rfl⟩
            rw [hdb]
            go_wp2_with fail
            go_ret2
            exact ⟨by rw [HN1.out]; exact NudV.bad (by decide), HK1.out.trans hw2⟩
          case neg =>
            have hdb : decide (d < -4000 ∨ 4000 < d) = false := decide_eq_false hbad
            have HB2 := Lib.hid (show (ds.take (k + 1)).any badD = false from by rw [HTK.out, List.any_append, HNB.out]; simp [badD]; omega)
            have f1 : IntKind.i64.wrap (d * 1440) = d * 1440 := IntWalk.i64_in _ (by omega)
            have f2 : IntKind.i64.wrap (s.due - d * 1440) = s.due - d * 1440 := IntWalk.i64_in _ (by omega)
            clear hbad
            go_wp2_with fail
            refine (outside_any d (-4000) 4000 _).mono ?_
            rintro e w' ⟨rfl, rfl⟩
            rw [hdb]
            cases now with
            | true =>
              have HX := Lib.hid (show (ds.take (k + 1)).any (hitD s tm) = true from by rw [HTK.out, List.any_append, ← HNOW.out]; rfl)
              go_wp2_with fail
              go_roundw
              case rel => exact ⟨k + 1, by omega, by go_num, by rw [HX.out], HB2.out, trivial⟩
              case measure => simp [intOf]; omega
            | false =>
              obtain ⟨r, hr⟩ : ∃ r, r = hitD s tm d := ⟨_, rfl⟩
              have hdr : (tm == s.due - d * 1440) = r := by rw [hr, hitD]; by_cases h : tm = s.due - d * 1440 <;> simp [h]
              have HX := Lib.hid (show (ds.take (k + 1)).any (hitD s tm) = r from by rw [HTK.out, List.any_append, ← HNOW.out, hr]; simp)
              have hb1 := HBL.out _ hw2
              have g5 := cell_at (i := 5) hb1 rfl
              clear hr hb1
              go_wp2_with fail
              go_roundw
              case rel => exact ⟨k + 1, by omega, by go_num, by rw [HX.out], HB2.out, trivial⟩
              case measure => simp [intOf]; omega
        · have hd9 : decide ((k : Int) < (ld : Int)) = false := by simp; omega
          have HE := Lib.hid (show ds.take k = ds from List.take_of_length_le (by have := HDL.out; omega))
          rw [HE.out] at HNOW HNB
          have HN0 := Lib.hid (show ne = 0 from by rw [HN.out, if_neg (by rw [HNB.out]; simp)])
          cases now with
          | false =>
            have HF := Lib.hid (show nudF s ts ds tm = [] from by rw [nudF, if_neg (by rw [← HNOW.out]; simp)])
            go_wp2_with fail
            go_ret2
            exact ⟨by rw [HN0.out, HF.out]; exact ⟨fun _ => ⟨none, 0, rfl, Sl.nil _ _ _ _ _⟩, fun h => absurd rfl h⟩, HK1.out.trans hw2⟩
          | true =>
            have HF := Lib.hid (show nudF s ts ds tm = nudL s ts tm s.pairs from by rw [nudF, if_pos HNOW.out.symm])
            have hb1 := HBL.out _ hw2
            have g2 := cell_at (i := 2) hb1 rfl
            clear hb1
            go_wp2_with fail
            clear g2
            obtain ⟨w3, hw3e⟩ : ∃ x : World, x = wr := ⟨_, rfl⟩
            subst hw3e
            go_loopw [15, 55] (fun o i wr => ∃ k : Nat, k ≤ l2 ∧ i = .int .i64 k ∧ Acc RPair 2 38 (fun _ => False) w3.heap.size wr o (nudL s ts tm (s.pairs.take k)) ∧ All w3 wr) (fun _ i _ => l2 - (intOf i).toNat)
            case atStart => exact ⟨0, Nat.zero_le _, rfl, Acc.nil _ _ _ _ _ _, Kept.refl _ _⟩
            case round =>
              obtain ⟨k, hk, rfl, hacc, hwr⟩ := hrel
              obtain ⟨wo, rfl⟩ : ∃ wo : World, wo = wr := ⟨_, rfl⟩
              by_cases hlt : k < l2
              · have hq := hw2.trans hwr
                obtain ⟨b, off, y, ha, -, c0, c1, -, -, htk⟩ := (HPS.out wo hq).atPair hlt
                subst ha
                have HY := Lib.hid (nudL_snoc (s := s) (ts := ts) (tm := tm) htk)
                have hyz1 := y.h1
                have hyz2 := y.h2
                have hko : All wo (wo.alloc (.cells #[.string y.paper, .string y.person] 38)) := Kept.alloc _ _ _
                have hblk := heap_at wo (.cells #[.string y.paper, .string y.person] 38) _ rfl
                obtain ⟨yb, hyb⟩ : ∃ q, q = wo.heap.size := ⟨_, rfl⟩
                have HYB := Lib.hid hyb
                rw [← hyb] at hblk
                have hac1 := hacc.keepAll RPair.ok hko
                have hwa := hwr.trans hko
                obtain ⟨oa, oc, rfl, hoc⟩ := hac1.form
                have hmk : (nudL s ts tm (s.pairs.take k)).length ≤ k := Nat.le_trans (nudL_len _ _ _ _) (List.length_take_le _ _)
                clear htk hyb hacc hwr hko
                go_upto_region 20 with fail
                simp only [← HYB.out]
                generalize wo.alloc (.cells #[.string y.paper, .string y.person] 38) = wa at *
                clear c0 c1
                have HSD := Lib.hid (stand_any a0 l0 c0 a1 l1 c1 (some ⟨b, off, none⟩) l2 c2 a3 l3 c3 a4 l4 c4 s kb ts (by have := HTL.out; omega) (y.paper, y.person) ⟨hyz1, hyz2⟩ tm wa (HBK.out.keep hwa))
                have HBX := Lib.hid (fun (wx : World) (k : All wa wx) => k.heap hblk trivial)
                have q0 := cell_at (i := 0) hblk rfl
                have q1 := cell_at (i := 1) hblk rfl
                obtain ⟨z, hz⟩ : ∃ z, z = standF s ts (y.paper, y.person) tm := ⟨_, rfl⟩
                have HZ := Lib.hid hz
                rw [← hz] at HSD
                clear hz hblk
                go_wp2_with fail
                refine HSD.out.mono ?_
                rintro e w4 ⟨rfl, hw4⟩
                have hb4 := HBX.out _ hw4
                clear q0 q1
                have q0 := cell_at (i := 0) hb4 rfl
                have q1 := cell_at (i := 1) hb4 rfl
                have hwb := hwa.trans hw4
                have hac4 := hac1.keepAll RPair.ok hw4
                clear hb4 hac1 hwa
                by_cases hz3 : z = 3
                case pos =>
                  have hd3 : (z != 3) = false := by simp [hz3]
                  have HY2 := Lib.hid (show nudL s ts tm (s.pairs.take (k + 1)) = nudL s ts tm (s.pairs.take k) from by rw [HY.out, if_pos (by rw [← HZ.out]; exact hz3)])
                  have hfin := Lib.hid hac4
                  clear hz3 hac4
                  go_wp2_with fail
                  go_roundw
                  case rel => exact ⟨k + 1, by omega, by go_num, by rw [HY2.out]; exact hfin.out, hwb⟩
                  case measure => simp [intOf]; omega
                case neg =>
                  have hd3 : (z != 3) = true := by simpa using hz3
                  have HY2 := Lib.hid (show nudL s ts tm (s.pairs.take (k + 1)) = nudL s ts tm (s.pairs.take k) ++ [y] from by rw [HY.out, if_neg (by rw [← HZ.out]; exact hz3)])
                  clear hz3
                  go_wp2_with (at_builtin; refine wp_append1 RPair.ok _ rfl _ _ 28 rfl w3.heap.size 38 (.agg #[.string ⟨#[]⟩, .string ⟨#[]⟩]) 2 32 Tryz.underlying28 (by kernel_rfl) rfl (by decide) (fun _ => False) _ (nudL s ts tm (s.pairs.take k)) rfl (hac4.keepAll RPair.ok (Kept.alloc _ _ _)) ⟨_, 0, none⟩ 1 [.string y.paper, .string y.person] rfl rfl (World.news_of_block (cs := #[.string y.paper, .string y.person]) (heap_at _ _ _ (by simp))) (by simp [Value.oneCell']) y rfl (by omega) (by decide) (by have := hwb.size; simp; omega) ?_)
                  intro p9 c9 w9 hacc9 hg9 _
                  have hk9 := Lib.hid ((hwb.then_alloc _).grown hg9 (fun j hj => Or.inl (hac4.lt j hj).1))
                  have hfin := Lib.hid hacc9
                  clear hacc9 hg9 hac4 q0 q1
                  go_wp2_with fail
                  go_roundw
                  case rel => exact ⟨k + 1, by omega, by go_num, by rw [HY2.out]; exact hfin.out, hk9.out⟩
                  case measure => simp [intOf]; omega
              · have hd8 : decide ((k : Int) < (l2 : Int)) = false := by simp; omega
                have HE2 := Lib.hid (show s.pairs.take k = s.pairs from List.take_of_length_le (by have := HPL.out; omega))
                rw [HE2.out] at hacc
                obtain ⟨pa, pc, rfl, hsl⟩ := pairSl hacc
                have HSL := Lib.hid hsl
                clear hacc hsl
                go_wp2_with fail
                go_ret2
                exact ⟨by rw [HN0.out, HF.out]; exact ⟨fun _ => ⟨pa, pc, rfl, HSL.out⟩, fun h => absurd rfl h⟩, HK1.out.trans (hw2.trans hwr)⟩
end Go.Proofs.YthhmgblcccbdaaaGreatDoor

/- NudgesOf. -/
namespace Go.Proofs.YthhmgblcccbdaaaGreatDoor
open Go.RowKit

/-- Pairs of a prefix whose reviews are not done, if a day hits. -/
noncomputable def nudB (s : Set7) (ts : List Raw) (hit : Bool) (tm : Int) (ps : List Pair2) : List Pair2 := if hit = true then nudL s ts tm ps else []
theorem nudF_eq (s : Set7) (ts : List Raw) (ds : List Int) (tm : Int) : nudF s ts ds tm = nudB s ts (ds.any (hitD s tm)) tm s.pairs := rfl
theorem nudB_snoc {s : Set7} {ts : List Raw} {hit : Bool} {tm : Int} {ps : List Pair2} {k : Nat} {y : Pair2} (h : ps.take (k + 1) = ps.take k ++ [y]) : nudB s ts hit tm (ps.take (k + 1)) = if standF s ts (y.paper, y.person) tm ≠ 3 ∧ hit = true then nudB s ts hit tm (ps.take k) ++ [y] else nudB s ts hit tm (ps.take k) := by
  cases hit with
  | false => simp [nudB]
  | true =>
    simp only [nudB, if_pos]
    rw [nudL_snoc h]
    by_cases h3 : standF s ts (y.paper, y.person) tm = 3 <;> simp [h3]
theorem nudB_len (s : Set7) (ts : List Raw) (hit : Bool) (tm : Int) (ps : List Pair2) : (nudB s ts hit tm ps).length ≤ ps.length := by
  cases hit with
  | false => simp [nudB]
  | true => simpa [nudB] using nudL_len s ts tm ps
theorem standsF_at {s : Set7} {ts : List Raw} {tm : Int} {ps : List Pair2} {k : Nat} {x : Std3} (h : (standsF s ts tm ps)[k]? = some x) : ∃ y : Pair2, x = standOf s ts tm y ∧ ps.take (k + 1) = ps.take k ++ [y] := by
  rw [standsF, List.getElem?_map] at h
  cases hy : ps[k]? with
  | none => rw [hy] at h; exact nomatch h
  | some y =>
    rw [hy] at h
    injection h with h
    exact ⟨y, h.symm, by rw [List.take_add_one, hy]; rfl⟩

set_option maxRecDepth 100000 in
set_option maxHeartbeats 12800000 in
theorem nudgesOf_any (a0 : Option Addr) (l0 c0 : Nat) (a1 : Option Addr) (l1 c1 : Nat) (a2 : Option Addr) (l2 c2 : Nat) (a3 : Option Addr) (l3 c3 : Nat) (a4 : Option Addr) (l4 c4 : Nat) (s : Set7) (al : Option Addr) (ll cl : Nat) (ts : List Raw) (ad : Option Addr) (ld cd : Nat) (ds : List Int) (tm : Int) (w : World) (his : SetIs (fun _ => True) w a0 l0 a1 l1 a2 l2 a3 l3 a4 l4 s) (hst : Sl RRaw 7 (fun _ => True) w al ll ts) (hl : ll ≤ 1000000) (hsd : Sl RInt 1 (fun _ => True) w ad ld ds) (hld : ld ≤ 1000000) (htm : 0 ≤ tm ∧ tm < 5761440) (hds : ∀ d ∈ ds, -4000 ≤ d ∧ d ≤ 4000) :
    Calls Tryz.prog 30 #[.agg #[.slice a0 l0 c0, .slice a1 l1 c1, .slice a2 l2 c2, .slice a3 l3 c3, .slice a4 l4 c4, .int .i64 s.due, .int .i64 s.reply], .slice al ll cl, .slice ad ld cd, .int .i64 tm] w fun e w' => (∃ (p : Option Addr) (c : Nat), e = .returned (.slice p (nudF s ts ds tm).length c) ∧ Sl RPair 2 (fun _ => True) w' p (nudF s ts ds tm).length (nudF s ts ds tm)) ∧ All w w' := by
  have hk1 : All w (w.alloc (.cells #[.slice a0 l0 c0, .slice a1 l1 c1, .slice a2 l2 c2, .slice a3 l3 c3, .slice a4 l4 c4, .int .i64 s.due, .int .i64 s.reply] 31)) := Kept.alloc _ _ _
  have hk2 : All w ((w.alloc (.cells #[.slice a0 l0 c0, .slice a1 l1 c1, .slice a2 l2 c2, .slice a3 l3 c3, .slice a4 l4 c4, .int .i64 s.due, .int .i64 s.reply] 31)).alloc (.cells #[.int .i64 tm] 3)) := hk1.then_alloc _
  have hb0 := heap_at w (.cells #[.slice a0 l0 c0, .slice a1 l1 c1, .slice a2 l2 c2, .slice a3 l3 c3, .slice a4 l4 c4, .int .i64 s.due, .int .i64 s.reply] 31) _ rfl
  have hb : ((w.alloc (.cells #[.slice a0 l0 c0, .slice a1 l1 c1, .slice a2 l2 c2, .slice a3 l3 c3, .slice a4 l4 c4, .int .i64 s.due, .int .i64 s.reply] 31)).alloc (.cells #[.int .i64 tm] 3)).heap[w.heap.size]? = some (.cells #[.slice a0 l0 c0, .slice a1 l1 c1, .slice a2 l2 c2, .slice a3 l3 c3, .slice a4 l4 c4, .int .i64 s.due, .int .i64 s.reply] 31) := Kept.heap (Kept.alloc (fun _ => True) _ _) hb0 trivial
  have ht : ((w.alloc (.cells #[.slice a0 l0 c0, .slice a1 l1 c1, .slice a2 l2 c2, .slice a3 l3 c3, .slice a4 l4 c4, .int .i64 s.due, .int .i64 s.reply] 31)).alloc (.cells #[.int .i64 tm] 3)).heap[w.heap.size + 1]? = some (.cells #[.int .i64 tm] 3) := heap_at (w.alloc (.cells #[.slice a0 l0 c0, .slice a1 l1 c1, .slice a2 l2 c2, .slice a3 l3 c3, .slice a4 l4 c4, .int .i64 s.due, .int .i64 s.reply] 31)) (.cells #[.int .i64 tm] 3) _ (by simp)
  obtain ⟨bb, hbb⟩ : ∃ b, b = w.heap.size := ⟨_, rfl⟩
  obtain ⟨tb, htb⟩ : ∃ b, b = w.heap.size + 1 := ⟨_, rfl⟩
  have HBB := Lib.hid hbb
  have HTB := Lib.hid (show tb = bb + 1 from by rw [htb, hbb])
  rw [← hbb] at hb
  rw [← htb] at ht
  have HBL := Lib.hid (fun (wx : World) (k : All ((w.alloc (.cells #[.slice a0 l0 c0, .slice a1 l1 c1, .slice a2 l2 c2, .slice a3 l3 c3, .slice a4 l4 c4, .int .i64 s.due, .int .i64 s.reply] 31)).alloc (.cells #[.int .i64 tm] 3)) wx) => k.heap hb trivial)
  have HTBL := Lib.hid (fun (wx : World) (k : All ((w.alloc (.cells #[.slice a0 l0 c0, .slice a1 l1 c1, .slice a2 l2 c2, .slice a3 l3 c3, .slice a4 l4 c4, .int .i64 s.due, .int .i64 s.reply] 31)).alloc (.cells #[.int .i64 tm] 3)) wx) => k.heap ht trivial)
  have HSO := Lib.hid (standsOf_any a0 l0 c0 a1 l1 c1 a2 l2 c2 a3 l3 c3 a4 l4 c4 s al ll cl ts tm _ (his.keep hk2) (hst.keep RRaw.ok hk2) hl)
  have HDS := Lib.hid (fun (wx : World) (k : All ((w.alloc (.cells #[.slice a0 l0 c0, .slice a1 l1 c1, .slice a2 l2 c2, .slice a3 l3 c3, .slice a4 l4 c4, .int .i64 s.due, .int .i64 s.reply] 31)).alloc (.cells #[.int .i64 tm] 3)) wx) => hsd.keep RInt.ok (hk2.trans k))
  have HPL := Lib.hid his.pairs.len
  have hl2 := his.n2
  have HK2 := Lib.hid hk2
  have HDD := Lib.hid hds
  obtain ⟨hit, hhit⟩ : ∃ h, h = ds.any (hitD s tm) := ⟨_, rfl⟩
  have HHIT := Lib.hid hhit
  have HNF := Lib.hid (show nudF s ts ds tm = nudB s ts hit tm s.pairs from by rw [nudF_eq, hhit])
  have eg : ∀ args w, (callFunc 67 args).run Tryz.prog w = .ok (.enter 67 args) w := fun _ _ => rfl
  have HEG := Lib.hid eg
  have e0 := cell_at (i := 0) hb rfl
  have e1 := cell_at (i := 1) hb rfl
  have e2 := cell_at (i := 2) hb rfl
  have e3 := cell_at (i := 3) hb rfl
  have e4 := cell_at (i := 4) hb rfl
  have e5 := cell_at (i := 5) hb rfl
  have e6 := cell_at (i := 6) hb rfl
  have et := cell_at (i := 0) ht rfl
  clear hhit hbb htb hb hb0 ht his hst hsd hds hk1 hk2 eg
  go_enter Tryz.func30, Tryz.ntmps30
  go_upto_region 1 with fail
  simp only [← HBB.out, ← HTB.out]
  generalize ((w.alloc (.cells #[.slice a0 l0 c0, .slice a1 l1 c1, .slice a2 l2 c2, .slice a3 l3 c3, .slice a4 l4 c4, .int .i64 s.due, .int .i64 s.reply] 31)).alloc (.cells #[.int .i64 tm] 3)) = w1 at *
  go_wp2_with fail
  refine HSO.out.mono ?_
  rintro e w2 ⟨⟨sp, sc, rfl, hss⟩, hw2⟩
  have HSS := Lib.hid hss
  clear e0 e1 e2 e3 e4 e5 e6 et hss
  obtain ⟨np, hnp⟩ : ∃ n, n = s.pairs.length := ⟨_, rfl⟩
  have hnl : np ≤ 1000000 := by have := HPL.out; omega
  have HNP := Lib.hid hnp
  rw [← hnp] at HSS ⊢
  clear hnp
  go_wp2_with fail
  obtain ⟨w3, hw3e⟩ : ∃ x : World, x = w2 := ⟨_, rfl⟩
  subst hw3e
  go_loopw [9, 17] (fun o i wr => ∃ k : Nat, k ≤ np ∧ i = .int .i64 k ∧ Acc RPair 2 38 (fun _ => False) w3.heap.size wr o (nudB s ts hit tm (s.pairs.take k)) ∧ All w3 wr) (fun _ i _ => np - (intOf i).toNat)
  case atStart => exact ⟨0, Nat.zero_le _, rfl, by simpa [nudB, nudL] using Acc.nil _ _ _ _ _ _, Kept.refl _ _⟩
  case round =>
    obtain ⟨k, hk, rfl, hacc, hwr⟩ := hrel
    obtain ⟨wo, rfl⟩ : ∃ wo : World, wo = wr := ⟨_, rfl⟩
    by_cases hlt : k < np
    · have hq := hw2.trans hwr
      obtain ⟨b, off, x, ha, -, c0, c1, c2, hsm, hx, -⟩ := (HSS.out.keep RStd.ok hwr).atStd hlt
      obtain ⟨y, hxy, htk⟩ := standsF_at hx
      obtain ⟨z, hz⟩ : ∃ z, z = standF s ts (y.paper, y.person) tm := ⟨_, rfl⟩
      have hx2 : x = ⟨y.paper, y.person, z⟩ := by rw [hxy, standOf, hz]
      subst hx2
      subst ha
      dsimp only at c0 c1 c2
      have HY := Lib.hid (nudB_snoc (s := s) (ts := ts) (hit := hit) (tm := tm) htk)
      have HZ := Lib.hid hz
      have hyz1 := y.h1
      have hyz2 := y.h2
      have hko : All wo (wo.alloc (.cells #[.string y.paper, .string y.person, .int .i64 z] 68)) := Kept.alloc _ _ _
      have hblk := heap_at wo (.cells #[.string y.paper, .string y.person, .int .i64 z] 68) _ rfl
      obtain ⟨yb, hyb⟩ : ∃ q, q = wo.heap.size := ⟨_, rfl⟩
      have HYB := Lib.hid hyb
      rw [← hyb] at hblk
      have hac1 := hacc.keepAll RPair.ok hko
      have hwa := hwr.trans hko
      obtain ⟨oa, oc, rfl, hoc⟩ := hac1.form
      have hmk : (nudB s ts hit tm (s.pairs.take k)).length ≤ k := Nat.le_trans (nudB_len _ _ _ _ _) (List.length_take_le _ _)
      clear htk hyb hacc hwr hko hz hx hxy hsm hq
      go_upto_region 5 with fail
      simp only [← HYB.out]
      generalize wo.alloc (.cells #[.string y.paper, .string y.person, .int .i64 z] 68) = wa at *
      clear c0 c1 c2
      have HBX := Lib.hid (fun (wx : World) (k : All wa wx) => k.heap hblk trivial)
      have q0 := cell_at (i := 0) hblk rfl
      have q1 := cell_at (i := 1) hblk rfl
      have q2 := cell_at (i := 2) hblk rfl
      clear hblk
      by_cases hz3 : z = 3
      case pos =>
        have hd3 : (z != 3) = false := by simp [hz3]
        have HY2 := Lib.hid (show nudB s ts hit tm (s.pairs.take (k + 1)) = nudB s ts hit tm (s.pairs.take k) from by rw [HY.out, if_neg (fun h => h.1 (by rw [← HZ.out]; exact hz3))])
        have hfin := Lib.hid hac1
        clear hz3 hac1
        go_wp2_with fail
        go_roundw
        case rel => exact ⟨k + 1, by omega, by go_num, by rw [HY2.out]; exact hfin.out, hwa⟩
        case measure => simp [intOf]; omega
      case neg =>
        have hd3 : (z != 3) = true := by simpa using hz3
        have HZ3 := Lib.hid (show standF s ts (y.paper, y.person) tm ≠ 3 from by rw [← HZ.out]; exact hz3)
        clear hz3
        have hwz := hw2.trans hwa
        have HCF := Lib.hid (containsFuncI_any 67 #[.pointer (some ⟨tb, 0, none⟩), .pointer (some ⟨bb, 0, none⟩)] HEG.out (hitD s tm) ad ld cd ds wa (HDS.out _ hwz) hld (fun d hd wx kx => nud1_any s tb bb tm d wx (cell_at (i := 0) (HTBL.out _ (hwz.trans kx)) rfl) (cell_at (i := 5) (HBL.out _ (hwz.trans kx)) rfl) htm (HDD.out d hd)))
        rw [← HHIT.out] at HCF
        go_wp2_with fail
        refine HCF.out.mono ?_
        rintro e w4 ⟨rfl, hw4⟩
        have hb4 := HBX.out _ hw4
        clear q0 q1 q2
        have q0 := cell_at (i := 0) hb4 rfl
        have q1 := cell_at (i := 1) hb4 rfl
        have hwb := hwa.trans hw4
        have hac4 := hac1.keepAll RPair.ok hw4
        clear hb4 hac1 hwa hwz
        cases hit with
        | false =>
          have HY2 := Lib.hid (show nudB s ts false tm (s.pairs.take (k + 1)) = nudB s ts false tm (s.pairs.take k) from by rw [HY.out, if_neg (fun h => nomatch h.2)])
          have hfin := Lib.hid hac4
          clear hac4
          go_wp2_with fail
          go_roundw
          case rel => exact ⟨k + 1, by omega, by go_num, by rw [HY2.out]; exact hfin.out, hwb⟩
          case measure => simp [intOf]; omega
        | true =>
          have HY2 := Lib.hid (show nudB s ts true tm (s.pairs.take (k + 1)) = nudB s ts true tm (s.pairs.take k) ++ [y] from by rw [HY.out, if_pos ⟨HZ3.out, rfl⟩])
          go_wp2_with (at_builtin; refine wp_append1 RPair.ok _ rfl _ _ 28 rfl w3.heap.size 38 (.agg #[.string ⟨#[]⟩, .string ⟨#[]⟩]) 2 32 Tryz.underlying28 (by kernel_rfl) rfl (by decide) (fun _ => False) _ (nudB s ts true tm (s.pairs.take k)) rfl (hac4.keepAll RPair.ok (Kept.alloc _ _ _)) ⟨_, 0, none⟩ 1 [.string y.paper, .string y.person] rfl rfl (World.news_of_block (cs := #[.string y.paper, .string y.person]) (heap_at _ _ _ (by simp))) (by simp [Value.oneCell']) y rfl (by omega) (by decide) (by have := hwb.size; simp; omega) ?_)
          intro p9 c9 w9 hacc9 hg9 _
          have hk9 := Lib.hid ((hwb.then_alloc _).grown hg9 (fun j hj => Or.inl (hac4.lt j hj).1))
          have hfin := Lib.hid hacc9
          clear hacc9 hg9 hac4 q0 q1
          go_wp2_with fail
          go_roundw
          case rel => exact ⟨k + 1, by omega, by go_num, by rw [HY2.out]; exact hfin.out, hk9.out⟩
          case measure => simp [intOf]; omega
    · have hd8 : decide ((k : Int) < (np : Int)) = false := by simp; omega
      have HE2 := Lib.hid (show s.pairs.take k = s.pairs from List.take_of_length_le (by have := HNP.out; omega))
      rw [HE2.out] at hacc
      obtain ⟨pa, pc, rfl, hsl⟩ := pairSl hacc
      have HSL := Lib.hid hsl
      clear hacc hsl
      go_wp2_with fail
      go_ret
      exact ⟨by rw [HNF.out]; exact ⟨pa, pc, rfl, HSL.out⟩, HK2.out.trans (hw2.trans hwr)⟩
end Go.Proofs.YthhmgblcccbdaaaGreatDoor
