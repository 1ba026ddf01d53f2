/- FinalAt: where a final is. -/
import Derived.Test.YtbpbhpmkganefaaGreatDoorVb
namespace Go.Proofs.YtbpbhpmkganefaaGreatDoor
open Go.RowKit

/-- Function value g with what it has captured answers p of a final. -/
def AnswersF (P : Program) (g : FuncId) (caps : Array Value) (w : World) (p : Fin4 → Bool) : Prop :=
  ∀ (y : Fin4) (ac : Option Addr) (lc cc : Nat) (wx : World), All w wx → Calls P g (#[.agg #[.string y.paper, .string y.title, .int .i64 y.pages, .slice ac lc cc]] ++ caps) wx fun e w' => e = .returned (.bool (p y)) ∧ All wx w'

set_option maxHeartbeats 800000 in
theorem indexFin_any (g : FuncId) (caps : Array Value) (eg : ∀ args w, (callFunc g args).run Tryz.prog w = .ok (.enter g args) w) (p : Fin4 → Bool)
    (a : Option Addr) (len cap : Nat) (ss : List Fin4) (w : World) (hs : Sl RFin 4 (fun _ => True) w a len ss) (hl : len ≤ 1000000) (hp : AnswersF Tryz.prog g caps w p) :
    Calls Tryz.prog 69 #[.slice a len cap, .func (.func g) #[] caps] w fun e w' => e = .returned (.int .i64 (findG p 0 ss)) ∧ All w w' := by
  have hlen := hs.len
  have HP := Lib.hid hp
  clear hp
  go_enter Tryz.func69, Tryz.ntmps69
  go_wp2
  go_loopw [5, 8] (fun _ i wr => ∃ k : Nat, k ≤ len ∧ i = .int .i64 k ∧ (ss.take k).any p = false ∧ All w wr) (fun _ i _ => len - (intOf i).toNat)
  case atStart => exact ⟨0, Nat.zero_le _, rfl, by simp, Kept.refl _ _⟩
  case round =>
    obtain ⟨k, hk, rfl, hnot, hall⟩ := hrel
    by_cases hlt : k < len
    · obtain ⟨b, off, y, ac, cc, ha, -, c0, c1, c2, c3, -, -, -, hy, hsplit, htake⟩ := (hs.keep RFin.ok hall).atFin hlt
      have hltake : (ss.take k).length = k := by simp; omega
      have Hsplit := Lib.hid hsplit
      have Htake := Lib.hid htake
      have Hl := Lib.hid hltake
      have Hnot := Lib.hid hnot
      clear hsplit htake hltake hlen hnot hy
      subst ha
      clear hs
      cases hpy : p y with
      | true =>
        have hfin : findG p 0 ss = k := by rw [Hsplit.out, findG_append Hnot.out, Hl.out, findG, if_pos hpy]; simp
        have Hfin := Lib.hid hfin
        clear hfin
        go_wp2_with fail
        refine (HP.out y _ _ _ _ hall).mono ?_
        rintro e w' ⟨rfl, hw⟩
        rw [hpy]
        go_wp2_with fail
        go_ret
        exact ⟨ret_int' Hfin.out.symm, hall.trans hw⟩
      | false =>
        go_wp2_with fail
        refine (HP.out y _ _ _ _ hall).mono ?_
        rintro e w' ⟨rfl, hw⟩
        rw [hpy]
        go_wp2_with fail
        go_roundw
        case rel => exact ⟨k + 1, by omega, by go_num, by rw [Htake.out, List.any_append, Hnot.out]; simp [hpy], hall.trans hw⟩
        case measure => simp [intOf]; omega
    · have hd : decide ((k : Int) < (len : Int)) = false := by simp; omega
      have hfin : findG p 0 ss = -1 := findG_neg (by rw [List.take_of_length_le (by omega)] at hnot; exact hnot)
      have Hfin := Lib.hid hfin
      clear hfin
      go_wp2
      go_ret
      exact ⟨ret_int' Hfin.out.symm, hall⟩

theorem finalAt1_any (kp : Nat) (p : ByteArray) (y : Fin4) (ac : Option Addr) (lc cc : Nat) (w : World) (ck : w.cell? ⟨kp, 0, none⟩ = some (.string p)) :
    Calls Tryz.prog 70 #[.agg #[.string y.paper, .string y.title, .int .i64 y.pages, .slice ac lc cc], .pointer (some ⟨kp, 0, none⟩)] w fun e w' => e = .returned (.bool (isPaper p y)) ∧ All w w' := by
  have hkp := lt_of_cell ck
  dsimp only at hkp
  by_cases h : y.paper = p
  · have hb : isPaper p y = true := by simp [isPaper, h]
    have e1 : (y.paper.toList == p.toList) = true := by simp [h]
    rw [hb]
    clear hb h
    go_enter Tryz.func70, Tryz.ntmps70
    go_wp2_with fail
    go_ret
    exact ⟨rfl, Kept.alloc _ _ _⟩
  · have hb : isPaper p y = false := by simp [isPaper, h]
    have e1 : (y.paper.toList == p.toList) = false := by simp; exact fun e => h (bytes_ext e)
    rw [hb]
    clear hb h
    go_enter Tryz.func70, Tryz.ntmps70
    go_wp2_with fail
    go_ret
    exact ⟨rfl, Kept.alloc _ _ _⟩

theorem finalAt_any (a : Option Addr) (len cap : Nat) (xs : List Fin4) (p : ByteArray) (w : World) (hs : Sl RFin 4 (fun _ => True) w a len xs) (hl : len ≤ 1000000) :
    Calls Tryz.prog 39 #[.slice a len cap, .string p] w fun e w' => e = .returned (.int .i64 (findG (isPaper p) 0 xs)) ∧ All w w' := by
  have hk1 : All w (w.alloc (.cells #[.string p] 9)) := Kept.alloc _ _ _
  have ha := heap_at w (.cells #[.string p] 9) _ rfl
  have hans : AnswersF Tryz.prog 70 #[.pointer (some ⟨w.heap.size, 0, none⟩)] (w.alloc (.cells #[.string p] 9)) (isPaper p) := fun y ac lc cc wx hwx =>
    finalAt1_any _ p y ac lc cc wx (hwx.cell (cell_at ha rfl) trivial)
  have eg : ∀ args w, (callFunc 70 args).run Tryz.prog w = .ok (.enter 70 args) w := enters_of Tryz.func70 (by kernel_rfl) rfl
  have HF := Lib.hid (indexFin_any 70 _ eg (isPaper p) a len cap xs _ (hs.keep RFin.ok hk1) hl hans)
  have hmf' := hmfC
  clear hans eg ha hs
  go_enter Tryz.func39, Tryz.ntmps39
  go_wp2_with fail
  refine HF.out.mono ?_
  rintro e w2 ⟨rfl, hw2⟩
  go_wp2_with fail
  go_ret
  exact ⟨rfl, hk1.trans hw2⟩
end Go.Proofs.YtbpbhpmkganefaaGreatDoor

/- PagesOf answers leavesF. -/
namespace Go.Proofs.YtbpbhpmkganefaaGreatDoor
open Go.RowKit

theorem findG_some {xs : List Fin4} {p : ByteArray} {f : Fin4} (h : finOf xs p = some f) : ∃ i : Nat, findG (isPaper p) 0 xs = (i : Int) ∧ xs[i]? = some f := by
  rcases findG_find (p := isPaper p) (xs := xs) (k := 0) with ⟨h1, -⟩ | ⟨i, g, h1, h2, h3⟩
  · unfold finOf at h; rw [h1] at h; cases h
  · unfold finOf at h; rw [h1] at h; cases h
    exact ⟨i, by simpa using h2, h3⟩
theorem nextPg_bd (right : Bool) (pg : Int) : pg ≤ nextPg right pg ∧ nextPg right pg ≤ pg + 1 := by unfold nextPg; split <;> omega
theorem nextPg_even {pg q : Int} (he : q % 2 = 0) (h : q = pg ∨ q = nextPg true pg) : q = pg ∧ q + 1 = nextPg true pg := by
  by_cases e : pg % 2 = 0
  · have hn : nextPg true pg = pg + 1 := by simp [nextPg, e]
    rw [hn] at h ⊢; omega
  · have hn : nextPg true pg = pg := by simp [nextPg, e]
    rw [hn] at h ⊢; omega
/-- The last page after m pages from q on. -/
def toF (q : Int) (m : Nat) : Int := if m = 0 then 0 else q + m - 1

set_option maxRecDepth 100000 in
set_option maxHeartbeats 12800000 in
theorem pagesOf_any (first : Int) (right : Bool) (av : Option Addr) (lv cv : Nat) (cs : List Chap) (af : Option Addr) (lf cf : Nat) (xs : List Fin4) (w : World)
    (hv : Sl RChap 2 (fun _ => True) w av lv cs) (hf : Sl RFin 4 (fun _ => True) w af lf xs) (hlv : lv ≤ 40) (hlf : lf ≤ 1000) (hpgs : ∀ x ∈ xs, 1 ≤ x.pages ∧ x.pages ≤ 100)
    (hfo : ∀ p ∈ allP cs, (finOf xs p).isSome = true) (h1 : 1 ≤ first) (h2 : first ≤ 5000) :
    Calls Tryz.prog 41 #[.agg #[.int .i64 first, .bool right, .slice av lv cv], .slice af lf cf] w (LeavesPost w (leavesF xs right first (allP cs))) := by
  have hcnt := hv.allP_le hlv
  have HFO := Lib.hid hfo
  have Hlen := Lib.hid hv.len
  have hk0 : All w (w.alloc (.cells #[.int .i64 first, .bool right, .slice av lv cv] 30)) := Kept.alloc _ _ _
  have hblk := heap_at w (.cells #[.int .i64 first, .bool right, .slice av lv cv] 30) _ rfl
  have v0 := cell_at (i := 0) hblk rfl
  have vr := cell_at (i := 1) hblk rfl
  have v2 := cell_at (i := 2) hblk rfl
  replace hv := hv.keep RChap.ok hk0
  replace hf := hf.keep RFin.ok hk0
  clear hblk hfo
  go_enter Tryz.func41, Tryz.ntmps41
  go_wp2_with fail
  generalize w.alloc (.cells #[.int .i64 first, .bool right, .slice av lv cv] 30) = w1 at *
  go_loopw [5, 6, 17] (fun o g i wr => ∃ (k : Nat), k ≤ lv ∧ i = .int .i64 k ∧ ∃ ls pg, Acc RLeaf 3 42 (fun _ => False) w1.heap.size wr o ls ∧ leavesF xs right first (allP (cs.take k)) = ls ∧ g = .int .i64 pg ∧ pageF xs right first (allP (cs.take k)) = pg ∧ All w1 wr) (fun _ _ i _ => lv - (intOf i).toNat)
  case atStart => exact ⟨0, Nat.zero_le _, rfl, [], first, Acc.nil _ _ _ _ _ _, rfl, rfl, rfl, Kept.refl _ _⟩
  case round =>
    obtain ⟨k, hk, rfl, ls, pg, hacc, hls, rfl, hpg, hwo⟩ := hrel
    obtain ⟨wo, rfl⟩ : ∃ wo : World, wo = wr := ⟨_, rfl⟩
    have HLS := Lib.hid hls
    have HPG := Lib.hid hpg
    clear hls hpg
    by_cases hlt : k < lv
    · obtain ⟨bc, oc, x, ap, cp, hac, -, c0, c1, hz1, hz2, hcp, hpp, hx, -⟩ := hv.atChap hlt
      subst hac
      replace c0 := hwo.cell c0 trivial
      replace c1 := hwo.cell c1 trivial
      have Hx := Lib.hid hx
      have hwa := hwo.then_alloc (.cells #[.string x.title, .slice ap x.papers.length cp] 65)
      have hblk := heap_at wo (.cells #[.string x.title, .slice ap x.papers.length cp] 65) _ rfl
      have e1 := cell_at (i := 1) hblk rfl
      have hacca := hacc.keepAll RLeaf.ok (Kept.alloc (fun _ => True) wo (.cells #[.string x.title, .slice ap x.papers.length cp] 65))
      clear hblk hacc hwo hx
      go_wp2_with fail
      generalize wo.alloc (.cells #[.string x.title, .slice ap x.papers.length cp] 65) = wa at *
      go_loopw [5, 6, 24] (fun o g i wr => ∃ (j : Nat), j ≤ x.papers.length ∧ i = .int .i64 j ∧ ∃ ls pg, Acc RLeaf 3 42 (fun _ => False) w1.heap.size wr o ls ∧ leavesF xs right first (allP (cs.take k) ++ x.papers.take j) = ls ∧ g = .int .i64 pg ∧ pageF xs right first (allP (cs.take k) ++ x.papers.take j) = pg ∧ All w1 wr) (fun _ _ i _ => x.papers.length - (intOf i).toNat)
      case atStart => exact ⟨0, Nat.zero_le _, rfl, ls, pg, hacca, by rw [List.take_zero, List.append_nil]; exact HLS.out, rfl, by rw [List.take_zero, List.append_nil]; exact HPG.out, hwa⟩
      case round =>
        clear hacca HLS HPG
        obtain ⟨j, hj, rfl, ls, pg, hacc, rfl, rfl, rfl, hwi⟩ := hrel
        obtain ⟨wi, rfl⟩ : ∃ wi : World, wi = wr := ⟨_, rfl⟩
        by_cases hjl : j < x.papers.length
        · obtain ⟨bp, op, y, hap, -, cy, hyz, hy, -, hytk⟩ := (hpp.keep RStr.ok hwi).atStr hjl
          subst hap
          have hpre : allP (cs.take k) ++ x.papers.take j ++ [y] = allP (cs.take k) ++ x.papers.take (j + 1) := by rw [hytk, List.append_assoc]
          have hpl := congrArg List.length hpre
          rw [List.length_append (bs := [y]), List.length_singleton] at hpl
          have hsub : ∀ z ∈ allP (cs.take k) ++ x.papers.take (j + 1), z ∈ allP cs := fun z hz => allP_sub Hx.out hz
          have hlen1 := allP_len (j := j + 1) Hx.out
          have hmem : y ∈ allP cs := hsub y (by rw [← hpre]; simp)
          obtain ⟨f, hfo⟩ := Option.isSome_iff_exists.1 (HFO.out y hmem)
          obtain ⟨ix, hix1, hfx⟩ := findG_some hfo
          have hix : ix < lf := by
            obtain ⟨hh, -⟩ := List.getElem?_eq_some_iff.1 hfx
            have := hf.len
            omega
          have hfm : f ∈ xs := List.mem_of_getElem? hfx
          have hpg := hpgs f hfm
          obtain ⟨hpg1, hpg2⟩ := hpg
          have hpgo : pgOf xs y = f.pages := by unfold pgOf; rw [hfo]
          have hb := pageF_le (right := right) hpgs (a := allP (cs.take k) ++ x.papers.take j) h1 (fun z hz => HFO.out z (hsub z (by rw [← hpre]; exact List.mem_append_left _ hz)))
          obtain ⟨hb1, hb2⟩ := hb
          have hb3 : pageF xs right first (allP (cs.take k) ++ x.papers.take j) ≤ 20000000 := by omega
          have hLn : (leavesF xs right first (allP (cs.take k) ++ x.papers.take j)).length + 1 ≤ 1000000000 := by
            rw [leavesF_length]
            omega
          have HL := Lib.hid (show leavesF xs right first (allP (cs.take k) ++ x.papers.take (j + 1)) = _ from by rw [← hpre, leavesF_one, hpgo])
          have HP := Lib.hid (show pageF xs right first (allP (cs.take k) ++ x.papers.take (j + 1)) = _ from by rw [← hpre, pageF_one, hpgo])
          have HFX := Lib.hid hfx
          have HIX := Lib.hid hix1
          clear hb2 hpre hpl hsub hlen1 hmem hfo hfx hix1 hpgo hytk hy hfm
          generalize hLS : leavesF xs right first (allP (cs.take k) ++ x.papers.take j) = ls at *
          generalize hPG : pageF xs right first (allP (cs.take k) ++ x.papers.take j) = pg at *
          clear hLS hPG
          have hnp := nextPg_bd right pg
          obtain ⟨hnp1, hnp2⟩ := hnp
          go_wp2_with fail
          go_loopw [6] (fun g wr => ∃ q : Int, g = .int .i64 q ∧ (q = pg ∨ q = nextPg right pg) ∧ wr = wi) (fun g _ => (pg + 1 - intOf g).toNat)
          case atStart => exact ⟨pg, rfl, Or.inl rfl, rfl⟩
          case round =>
            obtain ⟨q, rfl, hq, rfl⟩ := hrel
            obtain ⟨wp, rfl⟩ : ∃ wp : World, wp = wr := ⟨_, rfl⟩
            have hq1 : pg ≤ q := by omega
            have hq2 : q ≤ pg + 1 := by omega
            have r1 := hwi.cell vr trivial
            have HQQ := Lib.hid hq
            clear hq
            cases right with
            | false =>
              have hq3 : nextPg false pg = q := by have := HQQ.out; simp [nextPg] at this; simp [nextPg, this]
              have HQ := Lib.hid hq3
              have hwp := hwi
              have haccp := hacc
              clear hwi hacc hq3
              go_wp2_with fail
              have hlb := heap_at wp (.cells #[.string y, .int .i64 q, .int .i64 0] 42) _ rfl
              have hw3 : All w1 (wp.alloc (.cells #[.string y, .int .i64 q, .int .i64 0] 42)) := hwp.then_alloc _
              refine (finalAt_any af lf cf xs y _ (hf.keep RFin.ok hw3) (by omega)).mono ?_
              rintro e w4 ⟨rfl, hw4⟩
              have hw14 : All w1 w4 := hw3.trans hw4
              obtain ⟨bf, of, f', -, -, haf, -, -, -, c2, -, -, -, -, hf', -, -⟩ := (hf.keep RFin.ok hw14).atFin (k := ix) hix
              have hff : f' = f := by rw [HFX.out] at hf'; injection hf' with hf'; exact hf'.symm
              subst hff
              rw [HIX.out]
              have hlb4 := hw4.heap hlb trivial
              have hacc4 := (haccp.keepAll RLeaf.ok (Kept.alloc (fun _ => True) wp (.cells #[.string y, .int .i64 q, .int .i64 0] 42))).keepAll RLeaf.ok hw4
              have hrow : ∀ k, u5.ownBlock = some k → w1.heap.size ≤ k ∧ k < wp.heap.size := haccp.lt
              have hwps := hwp.size
              have hw4s : wp.heap.size + 1 ≤ w4.heap.size := by have := hw4.size; simpa using this
              clear haccp hlb hw3 hw4 hf'
              subst haf
              go_wp2_with fail
              go_loopw [6, 47] (fun g i wr => ∃ m : Nat, (m : Int) ≤ f'.pages ∧ i = .int .i64 m ∧ g = .int .i64 (q + m) ∧ wr.heap[wp.heap.size]? = some (.cells #[.string y, .int .i64 q, .int .i64 (toF q m)] 42 (0, 0)) ∧ Kept (fun k => k ≠ wp.heap.size) w4 wr) (fun _ i _ => (f'.pages - intOf i).toNat)
              case atStart => exact ⟨0, by omega, rfl, by simp, hlb4, Kept.refl _ _⟩
              case round =>
                obtain ⟨m, hm, rfl, rfl, hblk, hkm⟩ := hrel
                obtain ⟨wm, rfl⟩ : ∃ wm : World, wm = wr := ⟨_, rfl⟩
                have l0 := cell_at (i := 0) hblk rfl
                have l1 := cell_at (i := 1) hblk rfl
                have l2 := cell_at (i := 2) hblk rfl
                have fz := frozen_at (i := 2) hblk
                by_cases hml : (m : Int) < f'.pages
                · have hb' := heap_setCell_at wm wp.heap.size 2 (.int .i64 (q + m)) _ _ _ hblk
                  have hk' := hkm.then_setCell ⟨wp.heap.size, 2, none⟩ (.int .i64 (q + m)) (by simp)
                  have HB' := Lib.hid hb'
                  clear hblk hkm hb'
                  go_wp2_with fail
                  go_roundw
                  case rel => exact ⟨m + 1, by omega, by go_num, by go_num, by rw [HB'.out]; simp [toF]; omega, hk'⟩
                  case measure => simp [intOf]; omega
                · have hme : (m : Int) = f'.pages := by omega
                  have hdm : decide ((m : Int) < f'.pages) = false := decide_eq_false hml
                  have hto : toF q m = q + f'.pages - 1 := by unfold toF; rw [if_neg (by omega), hme]
                  rw [hto] at l2
                  have hwm : All w1 wm := hw14.trans2 hkm fun i hi _ => by omega
                  have haccm := hacc4.keep RLeaf.ok hkm (fun _ h => h.elim) (fun k hk => by have := hrow k hk; omega)
                  have HME := Lib.hid hme
                  clear hto hblk hkm hacc4 hlb4 hme
                  go_wp2_with (at_builtin; refine wp_append1 RLeaf.ok _ rfl _ _ 68 rfl w1.heap.size 42 (.agg #[.string ⟨#[]⟩, .int .i64 0, .int .i64 0]) 3 32 Tryz.underlying68 (by kernel_rfl) rfl (by decide) (fun _ => False) _ _ rfl (haccm.keepAll RLeaf.ok (Kept.alloc _ _ _)) ⟨_, 0, none⟩ 1 [.string y, .int .i64 q, .int .i64 (q + f'.pages - 1)] rfl rfl (World.news_of_block (cs := #[.string y, .int .i64 q, .int .i64 (q + f'.pages - 1)]) (heap_alloc_new wm _)) (by simp [Value.oneCell']) ⟨y, q, q + f'.pages - 1⟩ ⟨rfl, hyz⟩ hLn (by decide) (by have := hwm.size; simp; omega) ?_)
                  intro p' c' w6 hacc6 hg6 _
                  have hw6 : All w1 w6 := (hwm.then_alloc _).grown hg6 (fun k hk => Or.inl (haccm.lt k hk).1)
                  clear haccm hg6 hwm
                  go_wp2_with fail
                  go_roundw
                  case rel => exact ⟨j + 1, by omega, by go_num, _, _, hacc6, by rw [HL.out, HQ.out], by rw [HME.out], by rw [HP.out, HQ.out], hw6⟩
                  case measure => simp [intOf]; omega
            | true =>
              by_cases hev : q % 2 = 0
              · have d9 : (q % 2 == 0) = true := by simp [hev]
                obtain ⟨hqp, hqe⟩ := nextPg_even hev HQQ.out
                have HQE := Lib.hid hqe
                have hqp1 : q ≤ pg := by omega
                clear hqe hqp hev
                go_wp2_with fail
                go_roundw
                case rel => exact ⟨q + 1, rfl, Or.inr HQE.out, trivial⟩
                case measure => simp [intOf]; omega
              · have d9 : (q % 2 == 0) = false := by simp [hev]
                have hq3 : nextPg true pg = q := by
                  rcases HQQ.out with h | h
                  · subst h; simp [nextPg, hev]
                  · exact h.symm
                have HQ := Lib.hid hq3
                have hwp := hwi
                have haccp := hacc
                clear hwi hacc hq3 hev
                go_wp2_with fail
                have hlb := heap_at wp (.cells #[.string y, .int .i64 q, .int .i64 0] 42) _ rfl
                have hw3 : All w1 (wp.alloc (.cells #[.string y, .int .i64 q, .int .i64 0] 42)) := hwp.then_alloc _
                refine (finalAt_any af lf cf xs y _ (hf.keep RFin.ok hw3) (by omega)).mono ?_
                rintro e w4 ⟨rfl, hw4⟩
                have hw14 : All w1 w4 := hw3.trans hw4
                obtain ⟨bf, of, f', -, -, haf, -, -, -, c2, -, -, -, -, hf', -, -⟩ := (hf.keep RFin.ok hw14).atFin (k := ix) hix
                have hff : f' = f := by rw [HFX.out] at hf'; injection hf' with hf'; exact hf'.symm
                subst hff
                rw [HIX.out]
                have hlb4 := hw4.heap hlb trivial
                have hacc4 := (haccp.keepAll RLeaf.ok (Kept.alloc (fun _ => True) wp (.cells #[.string y, .int .i64 q, .int .i64 0] 42))).keepAll RLeaf.ok hw4
                have hrow : ∀ k, u5.ownBlock = some k → w1.heap.size ≤ k ∧ k < wp.heap.size := haccp.lt
                have hwps := hwp.size
                have hw4s : wp.heap.size + 1 ≤ w4.heap.size := by have := hw4.size; simpa using this
                clear haccp hlb hw3 hw4 hf'
                subst haf
                go_wp2_with fail
                go_loopw [6, 47] (fun g i wr => ∃ m : Nat, (m : Int) ≤ f'.pages ∧ i = .int .i64 m ∧ g = .int .i64 (q + m) ∧ wr.heap[wp.heap.size]? = some (.cells #[.string y, .int .i64 q, .int .i64 (toF q m)] 42 (0, 0)) ∧ Kept (fun k => k ≠ wp.heap.size) w4 wr) (fun _ i _ => (f'.pages - intOf i).toNat)
                case atStart => exact ⟨0, by omega, rfl, by simp, hlb4, Kept.refl _ _⟩
                case round =>
                  obtain ⟨m, hm, rfl, rfl, hblk, hkm⟩ := hrel
                  obtain ⟨wm, rfl⟩ : ∃ wm : World, wm = wr := ⟨_, rfl⟩
                  have l0 := cell_at (i := 0) hblk rfl
                  have l1 := cell_at (i := 1) hblk rfl
                  have l2 := cell_at (i := 2) hblk rfl
                  have fz := frozen_at (i := 2) hblk
                  by_cases hml : (m : Int) < f'.pages
                  · have hb' := heap_setCell_at wm wp.heap.size 2 (.int .i64 (q + m)) _ _ _ hblk
                    have hk' := hkm.then_setCell ⟨wp.heap.size, 2, none⟩ (.int .i64 (q + m)) (by simp)
                    have HB' := Lib.hid hb'
                    clear hblk hkm hb'
                    go_wp2_with fail
                    go_roundw
                    case rel => exact ⟨m + 1, by omega, by go_num, by go_num, by rw [HB'.out]; simp [toF]; omega, hk'⟩
                    case measure => simp [intOf]; omega
                  · have hme : (m : Int) = f'.pages := by omega
                    have hdm : decide ((m : Int) < f'.pages) = false := decide_eq_false hml
                    have hto : toF q m = q + f'.pages - 1 := by unfold toF; rw [if_neg (by omega), hme]
                    rw [hto] at l2
                    have hwm : All w1 wm := hw14.trans2 hkm fun i hi _ => by omega
                    have haccm := hacc4.keep RLeaf.ok hkm (fun _ h => h.elim) (fun k hk => by have := hrow k hk; omega)
                    have HME := Lib.hid hme
                    clear hto hblk hkm hacc4 hlb4 hme
                    go_wp2_with (at_builtin; refine wp_append1 RLeaf.ok _ rfl _ _ 68 rfl w1.heap.size 42 (.agg #[.string ⟨#[]⟩, .int .i64 0, .int .i64 0]) 3 32 Tryz.underlying68 (by kernel_rfl) rfl (by decide) (fun _ => False) _ _ rfl (haccm.keepAll RLeaf.ok (Kept.alloc _ _ _)) ⟨_, 0, none⟩ 1 [.string y, .int .i64 q, .int .i64 (q + f'.pages - 1)] rfl rfl (World.news_of_block (cs := #[.string y, .int .i64 q, .int .i64 (q + f'.pages - 1)]) (heap_alloc_new wm _)) (by simp [Value.oneCell']) ⟨y, q, q + f'.pages - 1⟩ ⟨rfl, hyz⟩ hLn (by decide) (by have := hwm.size; simp; omega) ?_)
                    intro p' c' w6 hacc6 hg6 _
                    have hw6 : All w1 w6 := (hwm.then_alloc _).grown hg6 (fun k hk => Or.inl (haccm.lt k hk).1)
                    clear haccm hg6 hwm
                    go_wp2_with fail
                    go_roundw
                    case rel => exact ⟨j + 1, by omega, by go_num, _, _, hacc6, by rw [HL.out, HQ.out], by rw [HME.out], by rw [HP.out, HQ.out], hw6⟩
                    case measure => simp [intOf]; omega
        · have hdj : decide ((j : Int) < (x.papers.length : Int)) = false := by simp; omega
          have e3 := Lib.hid (show allP (cs.take (k + 1)) = allP (cs.take k) ++ x.papers.take j by rw [allP_succ Hx.out, List.take_of_length_le (l := x.papers) (by omega)])
          generalize hLS : leavesF xs right first (allP (cs.take k) ++ x.papers.take j) = ls at *
          generalize hPG : pageF xs right first (allP (cs.take k) ++ x.papers.take j) = pg at *
          have HLS := Lib.hid hLS
          have HPG := Lib.hid hPG
          clear hLS hPG
          go_wp2_with fail
          go_roundw
          case rel => exact ⟨k + 1, by omega, by go_num, ls, pg, hacc, by rw [e3.out]; exact HLS.out, rfl, by rw [e3.out]; exact HPG.out, hwi⟩
          case measure => simp [intOf]; omega
    · have hd : decide ((k : Int) < (lv : Int)) = false := by simp; omega
      have e3 := Lib.hid (show cs.take k = cs from List.take_of_length_le (by have := Hlen.out; omega))
      obtain ⟨ao, co, rfl, -⟩ := hacc.form
      go_wp2_with fail
      go_ret
      refine ⟨_, rfl, ?_, hk0.trans hwo⟩
      have h3 := HLS.out
      rw [e3.out] at h3
      rw [h3]
      exact hacc.base hk0.size
end Go.Proofs.YtbpbhpmkganefaaGreatDoor
