/- leaves answers leavesF. -/
import Derived.Test.YtbpbhpmkganefaaGreatDoorVa
import Derived.Test.YtbpbhpmkganefaaGreatDoorOb
namespace Go.Proofs.YtbpbhpmkganefaaGreatDoor
open Go.RowKit

def LeavesPost (w : World) (ls : List Leaf3) (e : Ending) (w' : World) : Prop := ∃ v, e = .returned v ∧ Acc RLeaf 3 42 (fun _ => False) w.heap.size w' v ls ∧ All w w'
theorem allP_sub {cs : List Chap} {k j : Nat} {x : Chap} (hx : cs[k]? = some x) {z : ByteArray} (hz : z ∈ allP (cs.take k) ++ x.papers.take j) : z ∈ allP cs := by
  unfold allP at *
  rw [List.mem_flatMap]
  rcases List.mem_append.1 hz with h | h
  · obtain ⟨c, h1, h2⟩ := List.mem_flatMap.1 h
    exact ⟨c, List.mem_of_mem_take h1, h2⟩
  · exact ⟨x, List.mem_of_getElem? hx, List.mem_of_mem_take h⟩
theorem allP_len {cs : List Chap} {k j : Nat} {x : Chap} (hx : cs[k]? = some x) : (allP (cs.take k) ++ x.papers.take j).length ≤ (allP cs).length := by
  have h1 : allP cs = allP (cs.take k) ++ (x.papers ++ allP (cs.drop (k + 1))) := by
    have h2 : cs = cs.take k ++ x :: cs.drop (k + 1) := by rw [← drop_at hx, List.take_append_drop]
    conv => lhs; rw [h2]
    unfold allP
    rw [List.flatMap_append, List.flatMap_cons]
  rw [h1]
  simp only [List.length_append, List.length_take]
  omega
theorem Sl.allP_le {F : Nat → Prop} {w : World} {a : Option Addr} {len : Nat} {cs : List Chap} (h : Sl RChap 2 F w a len cs) (hl : len ≤ 40) : (allP cs).length ≤ 40000 := by
  have h1 : ∀ c ∈ cs, c.papers.length ≤ 1000 := fun c hc => by
    obtain ⟨i, hi, rfl⟩ := List.getElem_of_mem hc
    obtain ⟨b, off, y, _, _, _, _, _, _, _, h2, _, _, h3, _⟩ := h.atChap (k := i) (by rw [← h.len]; exact hi)
    rw [List.getElem?_eq_getElem hi] at h3
    injection h3 with h3
    rw [h3]; exact h2
  have h2 := h.len
  clear h
  have : ∀ (l : List Chap), (∀ c ∈ l, c.papers.length ≤ 1000) → (allP l).length ≤ 1000 * l.length := by
    intro l
    induction l with
    | nil => intro _; simp [allP]
    | cons c l ih =>
      intro hc
      have h3 := ih (fun d hd => hc d (List.mem_cons_of_mem _ hd))
      have h4 := hc c (List.mem_cons_self)
      unfold allP at *
      rw [List.flatMap_cons, List.length_append, List.length_cons]
      omega
  have := this cs h1
  omega

set_option maxRecDepth 100000 in
set_option maxHeartbeats 6400000 in
theorem leaves_any (first : Int) (right : Bool) (av : Option Addr) (lv cv : Nat) (cs : List Chap) (af : Option Addr) (lf cf : Nat) (xs : List Fin4) (w : World)
    (hv : Sl RChap 2 (fun _ => True) w av lv cs) (hf : Sl RFin 4 (fun _ => True) w af lf xs) (hlv : lv ≤ 40) (hlf : lf ≤ 1000) (hr : Rises xs) (hpgs : ∀ x ∈ xs, 1 ≤ x.pages ∧ x.pages ≤ 100)
    (hfo : ∀ p ∈ allP cs, (finOf xs p).isSome = true) (h1 : 1 ≤ first) (h2 : first ≤ 5000) :
    Calls Tryz.prog 24 #[.agg #[.int .i64 first, .bool right, .slice av lv cv], .slice af lf cf] w (LeavesPost w (leavesF xs right first (allP cs))) := by
  have hcnt := hv.allP_le hlv
  have HFO := Lib.hid hfo
  have Hlen := Lib.hid hv.len
  have hk0 : All w (w.alloc (.cells #[.int .i64 first, .bool right, .slice av lv cv] 30)) := Kept.alloc _ _ _
  have hblk := heap_at w (.cells #[.int .i64 first, .bool right, .slice av lv cv] 30) _ rfl
  have v0 := cell_at (i := 0) hblk rfl
  have vr := cell_at (i := 1) hblk rfl
  have v2 := cell_at (i := 2) hblk rfl
  replace hv := hv.keep RChap.ok hk0
  replace hf := hf.keep RFin.ok hk0
  clear hblk hfo
  go_enter Tryz.func24, Tryz.ntmps24
  go_wp2_with fail
  generalize w.alloc (.cells #[.int .i64 first, .bool right, .slice av lv cv] 30) = w1 at *
  go_loopw [5, 6, 18] (fun o g i wr => ∃ (k : Nat), k ≤ lv ∧ i = .int .i64 k ∧ ∃ ls pg, Acc RLeaf 3 42 (fun _ => False) w1.heap.size wr o ls ∧ leavesF xs right first (allP (cs.take k)) = ls ∧ g = .int .i64 pg ∧ pageF xs right first (allP (cs.take k)) = pg ∧ All w1 wr) (fun _ _ i _ => lv - (intOf i).toNat)
  case atStart => exact ⟨0, Nat.zero_le _, rfl, [], first, Acc.nil _ _ _ _ _ _, rfl, rfl, rfl, Kept.refl _ _⟩
  case round =>
    obtain ⟨k, hk, rfl, ls, pg, hacc, hls, rfl, hpg, hwo⟩ := hrel
    obtain ⟨wo, rfl⟩ : ∃ wo : World, wo = wr := ⟨_, rfl⟩
    have HLS := Lib.hid hls
    have HPG := Lib.hid hpg
    clear hls hpg
    by_cases hlt : k < lv
    · obtain ⟨bc, oc, x, ap, cp, hac, -, c0, c1, hz1, hz2, hcp, hpp, hx, -⟩ := hv.atChap hlt
      subst hac
      replace c0 := hwo.cell c0 trivial
      replace c1 := hwo.cell c1 trivial
      have Hx := Lib.hid hx
      have hwa := hwo.then_alloc (.cells #[.string x.title, .slice ap x.papers.length cp] 65)
      have hblk := heap_at wo (.cells #[.string x.title, .slice ap x.papers.length cp] 65) _ rfl
      have e1 := cell_at (i := 1) hblk rfl
      have hacca := hacc.keepAll RLeaf.ok (Kept.alloc (fun _ => True) wo (.cells #[.string x.title, .slice ap x.papers.length cp] 65))
      clear hblk hacc hwo hx
      go_wp2_with fail
      generalize wo.alloc (.cells #[.string x.title, .slice ap x.papers.length cp] 65) = wa at *
      go_loopw [5, 6, 25] (fun o g i wr => ∃ (j : Nat), j ≤ x.papers.length ∧ i = .int .i64 j ∧ ∃ ls pg, Acc RLeaf 3 42 (fun _ => False) w1.heap.size wr o ls ∧ leavesF xs right first (allP (cs.take k) ++ x.papers.take j) = ls ∧ g = .int .i64 pg ∧ pageF xs right first (allP (cs.take k) ++ x.papers.take j) = pg ∧ All w1 wr) (fun _ _ i _ => x.papers.length - (intOf i).toNat)
      case atStart => exact ⟨0, Nat.zero_le _, rfl, ls, pg, hacca, by rw [List.take_zero, List.append_nil]; exact HLS.out, rfl, by rw [List.take_zero, List.append_nil]; exact HPG.out, hwa⟩
      case round =>
        clear hacca HLS HPG
        obtain ⟨j, hj, rfl, ls, pg, hacc, rfl, rfl, rfl, hwi⟩ := hrel
        obtain ⟨wi, rfl⟩ : ∃ wi : World, wi = wr := ⟨_, rfl⟩
        by_cases hjl : j < x.papers.length
        · obtain ⟨bp, op, y, hap, -, cy, hyz, hy, -, hytk⟩ := (hpp.keep RStr.ok hwi).atStr hjl
          subst hap
          have hpre : allP (cs.take k) ++ x.papers.take j ++ [y] = allP (cs.take k) ++ x.papers.take (j + 1) := by rw [hytk, List.append_assoc]
          have hpl := congrArg List.length hpre
          rw [List.length_append (bs := [y]), List.length_singleton] at hpl
          have hsub : ∀ z ∈ allP (cs.take k) ++ x.papers.take (j + 1), z ∈ allP cs := fun z hz => allP_sub Hx.out hz
          have hlen1 := allP_len (j := j + 1) Hx.out
          have hmem : y ∈ allP cs := hsub y (by rw [← hpre]; simp)
          obtain ⟨f, hfo⟩ := Option.isSome_iff_exists.1 (HFO.out y hmem)
          obtain ⟨hfx, hfp⟩ := finOf_cnt hr hfo
          have hcn : cntOf xs y < lf := by
            obtain ⟨hh, -⟩ := List.getElem?_eq_some_iff.1 hfx
            have := hf.len
            omega
          have hfm : f ∈ xs := List.mem_of_getElem? hfx
          have hpg := hpgs f hfm
          obtain ⟨hpg1, hpg2⟩ := hpg
          have hpgo : pgOf xs y = f.pages := by unfold pgOf; rw [hfo]
          have hb := pageF_le (right := right) hpgs (a := allP (cs.take k) ++ x.papers.take j) h1 (fun z hz => HFO.out z (hsub z (by rw [← hpre]; exact List.mem_append_left _ hz)))
          obtain ⟨hb1, hb2⟩ := hb
          have hb3 : pageF xs right first (allP (cs.take k) ++ x.papers.take j) ≤ 20000000 := by
            omega
          have hLn : (leavesF xs right first (allP (cs.take k) ++ x.papers.take j)).length + 1 ≤ 1000000000 := by
            rw [leavesF_length]
            omega
          have HL := Lib.hid (show leavesF xs right first (allP (cs.take k) ++ x.papers.take (j + 1)) = _ from by rw [← hpre, leavesF_one, hpgo])
          have HP := Lib.hid (show pageF xs right first (allP (cs.take k) ++ x.papers.take (j + 1)) = _ from by rw [← hpre, pageF_one, hpgo])
          have HFX := Lib.hid hfx
          have r1 := hwi.cell vr trivial
          clear hb2 hpre hpl hsub hlen1 hmem hfo hfp hpgo hytk hy hpp hfm
          generalize hLS : leavesF xs right first (allP (cs.take k) ++ x.papers.take j) = ls at *
          generalize hPG : pageF xs right first (allP (cs.take k) ++ x.papers.take j) = pg at *
          clear hLS hPG
          cases right with
          | false =>
            have hq : nextPg false pg = pg := by simp [nextPg]
            rw [hq] at HL HP
            clear hq
            go_wp2_with fail
            refine (final_any af lf cf xs y _ (hf.keep RFin.ok hwi) hlf hr).mono ?_
            rintro e w2 ⟨rfl, hw2⟩
            have hwi2 : All w1 w2 := hwi.trans hw2
            have hfi := hf.keep RFin.ok hwi2
            obtain ⟨bf, of, f', -, -, haf, -, -, -, c2, -, -, -, -, hf', -, -⟩ := hfi.atFin (k := cntOf xs y) hcn
            have hff : f' = f := by rw [hfx] at hf'; injection hf' with hf'; exact hf'.symm
            subst hff
            subst haf
            have hacc2 := hacc.keepAll RLeaf.ok hw2
            clear hacc hwi hw2 hfi hf' hfx
            go_wp2_with (at_builtin; refine wp_append1 RLeaf.ok _ rfl _ _ 68 rfl w1.heap.size 42 (.agg #[.string ⟨#[]⟩, .int .i64 0, .int .i64 0]) 3 32 Tryz.underlying68 (by kernel_rfl) rfl (by decide) (fun _ => False) _ _ rfl (hacc2.keepAll RLeaf.ok (Kept.alloc _ _ _)) ⟨_, 0, none⟩ 1 [.string y, .int .i64 pg, .int .i64 (pg + f'.pages - 1)] rfl rfl (World.news_of_block (cs := #[.string y, .int .i64 pg, .int .i64 (pg + f'.pages - 1)]) (heap_alloc_new w2 _)) (by simp [Value.oneCell']) ⟨y, pg, pg + f'.pages - 1⟩ ⟨rfl, hyz⟩ hLn (by decide) (by have := hwi2.size; simp; omega) ?_)
            intro p' c' w3 hacc3 hg3 _
            have hwi3 : All w1 w3 := (hwi2.then_alloc _).grown hg3 (fun k hk => Or.inl (hacc2.lt k hk).1)
            have c3 : w3.cell? ⟨bf, of + cntOf xs y * 4 + 2, none⟩ = some (.int .i64 f'.pages) := by
              obtain ⟨bf', of', f'', -, -, haf', -, -, -, c2', -, -, -, -, hf'', -, -⟩ := (hf.keep RFin.ok hwi3).atFin (k := cntOf xs y) hcn
              cases haf'
              have : f'' = f' := by have := HFX.out; rw [this] at hf''; injection hf'' with hf''; exact hf''.symm
              rw [← this]; exact c2'
            clear hacc2 hg3 hwi2 c2
            go_wp2_with fail
            go_roundw
            case rel => exact ⟨j + 1, by omega, by go_num, _, _, hacc3, by rw [HL.out], rfl, by rw [HP.out], hwi3⟩
            case measure => simp [intOf]; omega
          | true =>
            by_cases hev : pg % 2 = 0
            · have hq : nextPg true pg = pg + 1 := by simp [nextPg, hev]
              have d9 : (pg % 2 == 0) = true := by simp [hev]
              rw [hq] at HL HP
              clear hq hev
              go_wp2_with fail
              refine (final_any af lf cf xs y _ (hf.keep RFin.ok hwi) hlf hr).mono ?_
              rintro e w2 ⟨rfl, hw2⟩
              have hwi2 : All w1 w2 := hwi.trans hw2
              have hfi := hf.keep RFin.ok hwi2
              obtain ⟨bf, of, f', -, -, haf, -, -, -, c2, -, -, -, -, hf', -, -⟩ := hfi.atFin (k := cntOf xs y) hcn
              have hff : f' = f := by rw [hfx] at hf'; injection hf' with hf'; exact hf'.symm
              subst hff
              subst haf
              have hacc2 := hacc.keepAll RLeaf.ok hw2
              clear hacc hwi hw2 hfi hf' hfx
              go_wp2_with (at_builtin; refine wp_append1 RLeaf.ok _ rfl _ _ 68 rfl w1.heap.size 42 (.agg #[.string ⟨#[]⟩, .int .i64 0, .int .i64 0]) 3 32 Tryz.underlying68 (by kernel_rfl) rfl (by decide) (fun _ => False) _ _ rfl (hacc2.keepAll RLeaf.ok (Kept.alloc _ _ _)) ⟨_, 0, none⟩ 1 [.string y, .int .i64 (pg + 1), .int .i64 ((pg + 1) + f'.pages - 1)] rfl rfl (World.news_of_block (cs := #[.string y, .int .i64 (pg + 1), .int .i64 ((pg + 1) + f'.pages - 1)]) (heap_alloc_new w2 _)) (by simp [Value.oneCell']) ⟨y, (pg + 1), (pg + 1) + f'.pages - 1⟩ ⟨rfl, hyz⟩ hLn (by decide) (by have := hwi2.size; simp; omega) ?_)
              intro p' c' w3 hacc3 hg3 _
              have hwi3 : All w1 w3 := (hwi2.then_alloc _).grown hg3 (fun k hk => Or.inl (hacc2.lt k hk).1)
              have c3 : w3.cell? ⟨bf, of + cntOf xs y * 4 + 2, none⟩ = some (.int .i64 f'.pages) := by
                obtain ⟨bf', of', f'', -, -, haf', -, -, -, c2', -, -, -, -, hf'', -, -⟩ := (hf.keep RFin.ok hwi3).atFin (k := cntOf xs y) hcn
                cases haf'
                have : f'' = f' := by have := HFX.out; rw [this] at hf''; injection hf'' with hf''; exact hf''.symm
                rw [← this]; exact c2'
              clear hacc2 hg3 hwi2 c2
              go_wp2_with fail
              go_roundw
              case rel => exact ⟨j + 1, by omega, by go_num, _, _, hacc3, by rw [HL.out], rfl, by rw [HP.out], hwi3⟩
              case measure => simp [intOf]; omega
            · have hq : nextPg true pg = pg := by simp [nextPg, hev]
              have d9 : (pg % 2 == 0) = false := by simp [hev]
              rw [hq] at HL HP
              clear hq hev
              go_wp2_with fail
              refine (final_any af lf cf xs y _ (hf.keep RFin.ok hwi) hlf hr).mono ?_
              rintro e w2 ⟨rfl, hw2⟩
              have hwi2 : All w1 w2 := hwi.trans hw2
              have hfi := hf.keep RFin.ok hwi2
              obtain ⟨bf, of, f', -, -, haf, -, -, -, c2, -, -, -, -, hf', -, -⟩ := hfi.atFin (k := cntOf xs y) hcn
              have hff : f' = f := by rw [hfx] at hf'; injection hf' with hf'; exact hf'.symm
              subst hff
              subst haf
              have hacc2 := hacc.keepAll RLeaf.ok hw2
              clear hacc hwi hw2 hfi hf' hfx
              go_wp2_with (at_builtin; refine wp_append1 RLeaf.ok _ rfl _ _ 68 rfl w1.heap.size 42 (.agg #[.string ⟨#[]⟩, .int .i64 0, .int .i64 0]) 3 32 Tryz.underlying68 (by kernel_rfl) rfl (by decide) (fun _ => False) _ _ rfl (hacc2.keepAll RLeaf.ok (Kept.alloc _ _ _)) ⟨_, 0, none⟩ 1 [.string y, .int .i64 pg, .int .i64 (pg + f'.pages - 1)] rfl rfl (World.news_of_block (cs := #[.string y, .int .i64 pg, .int .i64 (pg + f'.pages - 1)]) (heap_alloc_new w2 _)) (by simp [Value.oneCell']) ⟨y, pg, pg + f'.pages - 1⟩ ⟨rfl, hyz⟩ hLn (by decide) (by have := hwi2.size; simp; omega) ?_)
              intro p' c' w3 hacc3 hg3 _
              have hwi3 : All w1 w3 := (hwi2.then_alloc _).grown hg3 (fun k hk => Or.inl (hacc2.lt k hk).1)
              have c3 : w3.cell? ⟨bf, of + cntOf xs y * 4 + 2, none⟩ = some (.int .i64 f'.pages) := by
                obtain ⟨bf', of', f'', -, -, haf', -, -, -, c2', -, -, -, -, hf'', -, -⟩ := (hf.keep RFin.ok hwi3).atFin (k := cntOf xs y) hcn
                cases haf'
                have : f'' = f' := by have := HFX.out; rw [this] at hf''; injection hf'' with hf''; exact hf''.symm
                rw [← this]; exact c2'
              clear hacc2 hg3 hwi2 c2
              go_wp2_with fail
              go_roundw
              case rel => exact ⟨j + 1, by omega, by go_num, _, _, hacc3, by rw [HL.out], rfl, by rw [HP.out], hwi3⟩
              case measure => simp [intOf]; omega
        · have hdj : decide ((j : Int) < (x.papers.length : Int)) = false := by simp; omega
          have e3 := Lib.hid (show allP (cs.take (k + 1)) = allP (cs.take k) ++ x.papers.take j by rw [allP_succ Hx.out, List.take_of_length_le (l := x.papers) (by omega)])
          generalize hLS : leavesF xs right first (allP (cs.take k) ++ x.papers.take j) = ls at *
          generalize hPG : pageF xs right first (allP (cs.take k) ++ x.papers.take j) = pg at *
          have HLS := Lib.hid hLS
          have HPG := Lib.hid hPG
          clear hLS hPG
          go_wp2_with fail
          go_roundw
          case rel => exact ⟨k + 1, by omega, by go_num, ls, pg, hacc, by rw [e3.out]; exact HLS.out, rfl, by rw [e3.out]; exact HPG.out, hwi⟩
          case measure => simp [intOf]; omega
    · have hd : decide ((k : Int) < (lv : Int)) = false := by simp; omega
      have e3 := Lib.hid (show cs.take k = cs from List.take_of_length_le (by have := Hlen.out; omega))
      obtain ⟨ao, co, rfl, -⟩ := hacc.form
      go_wp2_with fail
      go_ret
      refine ⟨_, rfl, ?_, hk0.trans hwo⟩
      have h3 := HLS.out
      rw [e3.out] at h3
      rw [h3]
      exact hacc.base hk0.size
end Go.Proofs.YtbpbhpmkganefaaGreatDoor
