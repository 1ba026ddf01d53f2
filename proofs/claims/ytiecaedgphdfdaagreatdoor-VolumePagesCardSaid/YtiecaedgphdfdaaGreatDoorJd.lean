/- ContentsOf answers chapC. -/
import Derived.Test.YtiecaedgphdfdaaGreatDoorJc
import Derived.Test.YtiecaedgphdfdaaGreatDoorNb
namespace Go.Proofs.YtiecaedgphdfdaaGreatDoor
open Go.RowKit

theorem leavesF_lo {xs : List Fin4} {right : Bool} (hp : ∀ x ∈ xs, 1 ≤ x.pages ∧ x.pages ≤ 100) : ∀ {ps : List ByteArray} {page : Int}, 1 ≤ page → (∀ p ∈ ps, (finOf xs p).isSome = true) → ∀ x ∈ leavesF xs right page ps, 1 ≤ x.lo ∧ x.lo ≤ page + 101 * ps.length
  | [], page, _, _, x, hx => by simp [leavesF] at hx
  | p :: l, page, h1, h2, x, hx => by
    have h3 : 0 ≤ pgOf xs p ∧ pgOf xs p ≤ 100 := by
      unfold pgOf
      split
      · rename_i f hf; have := hp f (List.mem_of_find?_eq_some hf); omega
      · omega
    have h4 : page ≤ nextPg right page ∧ nextPg right page ≤ page + 1 := by unfold nextPg; split <;> omega
    simp only [leavesF, List.mem_cons] at hx
    simp only [List.length_cons]
    rcases hx with rfl | hx
    · dsimp only; omega
    · have := leavesF_lo hp (ps := l) (page := nextPg right page + pgOf xs p) (right := right) (by omega) (fun q hq => h2 q (List.mem_cons_of_mem _ hq)) x hx
      omega
section
variable {first : Int} {right : Bool} {cs : List Chap} {xs : List Fin4} {ls : List Leaf3} {k j : Nat} {x : Chap}
theorem finalsF_len (h : finalsF xs = 0) : xs.length ≤ 400 := by
  unfold finalsF at h
  split at h
  · omega
  · omega
theorem loOf_bound (hok : VolOk first right cs xs) (p : ByteArray) : 0 ≤ loOf (lvs first right cs xs) p ∧ loOf (lvs first right cs xs) p ≤ 100000 := by
  unfold loOf
  cases hl : leafOf (lvs first right cs xs) p with
  | none => simp
  | some y =>
    have h1 := leavesF_lo (finalsF_rises hok.fin).2 hok.lo (chapsF_found hok.chap) y (List.mem_of_find?_eq_some hl)
    have h2 := allP_small hok.chap
    have h3 := finalsF_len hok.fin
    have h4 := hok.hi
    dsimp only
    omega
theorem chapC_total (hok : VolOk first right cs xs) : (chapC xs (lvs first right cs xs) cs).length ≤ 200000 := by
  have h1 := chapC_len (xs := xs) (ls := lvs first right cs xs) (M := 226) (T := 200) (cs := cs) (fun c hc => by have := (lineB_size (chapsF_titles hok.chap c hc)).2; omega) (fun p hp => by
    have h2 := found_parts hok.fin (chapsF_found hok.chap p hp)
    have h3 := loOf_bound hok p
    have h4 := Lib.itoa_length_le (loOf (lvs first right cs xs) p) (by omega) (by omega)
    rw [lineC_size]
    omega)
  have h2 := allP_small hok.chap
  have h3 := finalsF_len hok.fin
  have h4 := hok.len
  omega
theorem chapC_take (xs : List Fin4) (ls : List Leaf3) (cs : List Chap) (k : Nat) : (chapC xs ls (cs.take k)).length ≤ (chapC xs ls cs).length := by
  have e : chapC xs ls cs = chapC xs ls (cs.take k) ++ chapC xs ls (cs.drop k) := by
    conv => lhs; rw [← List.take_append_drop k cs]
    simp only [chapC, List.flatMap_append]
  rw [e, List.length_append]
  omega
theorem papC_take (xs : List Fin4) (ls : List Leaf3) (ps : List ByteArray) (j : Nat) : (papC xs ls (ps.take j)).length ≤ (papC xs ls ps).length := by
  have e : papC xs ls ps = papC xs ls (ps.take j) ++ papC xs ls (ps.drop j) := by
    conv => lhs; rw [← List.take_append_drop j ps]
    simp only [papC, List.flatMap_append]
  rw [e, List.length_append]
  omega
theorem chapC_part (hx : cs[k]? = some x) (j : Nat) : (chapC xs ls (cs.take k) ++ ((headC x.title).data.toList ++ papC xs ls (x.papers.take j))).length ≤ (chapC xs ls cs).length := by
  have h1 := chapC_take xs ls cs (k + 1)
  have h2 : cs.take (k + 1) = cs.take k ++ [x] := by
    obtain ⟨hk, rfl⟩ := List.getElem?_eq_some_iff.1 hx
    rw [List.take_succ_eq_append_getElem hk]
  rw [chapC_succ h2, List.length_append, List.length_append] at h1
  have h3 := papC_take xs ls x.papers j
  rw [List.length_append, List.length_append]
  omega
end
theorem take_succ {α : Type} {xs : List α} {k : Nat} {x : α} (hx : xs[k]? = some x) : xs.take (k + 1) = xs.take k ++ [x] := by
  obtain ⟨hk, rfl⟩ := List.getElem?_eq_some_iff.1 hx
  rw [List.take_succ_eq_append_getElem hk]
theorem leafOf_some {ls : List Leaf3} {p : ByteArray} (h : p ∈ ls.map (·.paper)) : ∃ z, leafOf ls p = some z := by
  obtain ⟨x, hx, rfl⟩ := List.mem_map.1 h
  exact Option.isSome_iff_exists.1 (List.find?_isSome.2 ⟨x, hx, by simp⟩)
/-- A string is put behind another one. -/
theorem cat_run (P : Program) (a b : ByteArray) (h : a.size + b.size ≤ 9223372036854775807) : ∃ t : ByteArray, t = a ++ b ∧ t.size = a.size + b.size ∧ ∀ wx : World, (Op.stringOp .add a b).run P wx = .ok (.string t) wx :=
  ⟨_, rfl, ByteArray.size_append, fun wx => run_string_add_sum wx a b h⟩
theorem data_app (a b : ByteArray) : (a ++ b).data.toList = a.data.toList ++ b.data.toList := by simp

set_option maxRecDepth 100000 in
set_option maxHeartbeats 6400000 in
theorem contentsOf_any (first : Int) (right : Bool) (av : Option Addr) (lv cv : Nat) (cs : List Chap) (af : Option Addr) (lf cf : Nat) (xs : List Fin4) (w : World)
    (hv : Sl RChap 2 (fun _ => True) w av lv cs) (hf : Sl RFin 4 (fun _ => True) w af lf xs) (hlf : lf ≤ 1000) (hok : VolOk first right cs xs) (hp : Pow w) :
    Calls Tryz.prog 20 #[.agg #[.int .i64 first, .bool right, .slice av lv cv], .slice af lf cf] w fun e w' => e = .returned (.string ⟨(chapC xs (lvs first right cs xs) cs).toArray⟩) ∧ All w w' := by
  have OK := Lib.hid hok
  have hlv' : lv ≤ 40 := by have := hok.len; have := hv.len; omega
  have Hlen := Lib.hid hv.len
  have hk0 : All w (w.alloc (.cells #[.int .i64 first, .bool right, .slice av lv cv] 30)) := Kept.alloc _ _ _
  have hblk := heap_at w (.cells #[.int .i64 first, .bool right, .slice av lv cv] 30) _ rfl
  have v0 := cell_at (i := 0) hblk rfl
  have v1 := cell_at (i := 1) hblk rfl
  have v2 := cell_at (i := 2) hblk rfl
  replace hv := hv.keep RChap.ok hk0
  replace hf := hf.keep RFin.ok hk0
  have HP := Lib.hid (hp.keep hk0)
  clear hblk hok hp
  go_enter Tryz.func20, Tryz.ntmps20
  go_wp2_with fail
  generalize w.alloc (.cells #[.int .i64 first, .bool right, .slice av lv cv] 30) = w1 at *
  obtain ⟨ls, hls⟩ : ∃ ls, ls = lvs first right cs xs := ⟨_, rfl⟩
  have HLS := Lib.hid hls
  clear hls
  go_loopw [5, 15] (fun o i wr => ∃ (k : Nat), k ≤ lv ∧ i = .int .i64 k ∧ ∃ s : ByteArray, o = .string s ∧ s.data.toList = chapC xs ls (cs.take k) ∧ All w1 wr) (fun _ i _ => lv - (intOf i).toNat)
  case atStart => exact ⟨0, Nat.zero_le _, rfl, ⟨#[]⟩, rfl, by simp [chapC], Kept.refl _ _⟩
  case round =>
    obtain ⟨k, hk, rfl, s, rfl, hs, hwo⟩ := hrel
    obtain ⟨wo, rfl⟩ : ∃ wo : World, wo = wr := ⟨_, rfl⟩
    have HS := Lib.hid hs
    have hsb : s.size ≤ 200000 := by
      have h1 := chapC_take xs ls cs k
      rw [← hs, data_len] at h1
      have h2 := chapC_total OK.out
      have h3 := HLS.out
      rw [← h3] at h2
      omega
    clear hs
    by_cases hlt : k < lv
    · obtain ⟨bc, oc, x, ap, cp, hac, -, c0, c1, hz1, hz2, hcp, hpp, hx, -⟩ := hv.atChap hlt
      subst hac
      replace c0 := hwo.cell c0 trivial
      replace c1 := hwo.cell c1 trivial
      have Hx := Lib.hid hx
      have hwa := hwo.then_alloc (.cells #[.string x.title, .slice ap x.papers.length cp] 107)
      have hblk := heap_at wo (.cells #[.string x.title, .slice ap x.papers.length cp] 107) _ rfl
      have e0 := cell_at (i := 0) hblk rfl
      have e1 := cell_at (i := 1) hblk rfl
      clear hblk hwo hx
      go_wp2_with fail
      generalize wo.alloc (.cells #[.string x.title, .slice ap x.papers.length cp] 107) = wa at *
      go_loopw [5, 27] (fun o i wr => ∃ (j : Nat), j ≤ x.papers.length ∧ i = .int .i64 j ∧ ∃ s : ByteArray, o = .string s ∧ s.data.toList = chapC xs ls (cs.take k) ++ ((headC x.title).data.toList ++ papC xs ls (x.papers.take j)) ∧ All w1 wr) (fun _ i _ => x.papers.length - (intOf i).toNat)
      case atStart => exact ⟨0, Nat.zero_le _, rfl, _, rfl, by rw [data_app, HS.out, List.take_zero]; simp [papC, headC], hwa⟩
      case round =>
        clear hsb HS
        obtain ⟨j, hj, rfl, s2, rfl, hs2, hwi⟩ := hrel
        obtain ⟨wi, rfl⟩ : ∃ wi : World, wi = wr := ⟨_, rfl⟩
        have HS2 := Lib.hid hs2
        have hsb2 : s2.size ≤ 200000 := by
          have h1 := chapC_part (xs := xs) (ls := ls) Hx.out j
          rw [← hs2, data_len] at h1
          have h2 := chapC_total OK.out
          have h3 := HLS.out
          rw [← h3] at h2
          omega
        clear hs2
        by_cases hjl : j < x.papers.length
        · obtain ⟨bp, op, y, hap, -, cy, hyz, hy, -, hytk⟩ := (hpp.keep RStr.ok hwi).atStr hjl
          subst hap
          have hmem : y ∈ allP cs := allP_sub (j := j + 1) Hx.out (List.mem_append_right _ (by rw [hytk]; simp))
          obtain ⟨f, hfo⟩ := Option.isSome_iff_exists.1 (chapsF_found OK.out.chap y hmem)
          obtain ⟨ix, hix1, hfx⟩ := findG_some hfo
          have hix : ix < lf := by
            obtain ⟨hh, -⟩ := List.getElem?_eq_some_iff.1 hfx
            have := hf.len
            omega
          obtain ⟨z, hz⟩ := leafOf_some (ls := ls) (p := y) (by rw [HLS.out, leavesF_papers]; exact hmem)
          have hlob := loOf_bound OK.out y
          rw [← HLS.out] at hlob
          have hloe : loOf ls y = z.lo := by unfold loOf; rw [hz]
          rw [hloe] at hlob
          obtain ⟨hlo1, hlo2⟩ := hlob
          have htie : titleOf xs y = f.title := by unfold titleOf; rw [hfo]
          have htis : f.title.size ≤ 200 := by rw [← htie]; exact (found_parts OK.out.fin (chapsF_found OK.out.chap y hmem)).1
          have hits := itoa_size z.lo (by omega) (by omega)
          have HFX := Lib.hid hfx
          have HIX := Lib.hid hix1
          have HZ := Lib.hid hz
          have HLO := Lib.hid hloe
          have HTI := Lib.hid htie
          have HYT := Lib.hid hytk
          clear hfo hfx hix1 hz hloe htie hytk hmem hy
          have u0 := hwi.cell v0 trivial
          have u1 := hwi.cell v1 trivial
          have u2 := hwi.cell v2 trivial
          go_wp2_with fail
          refine (leafOf_any first right _ lv cv cs af lf cf xs y _ (hv.keep RChap.ok hwi) (hf.keep RFin.ok hwi) hlf OK.out).mono ?_
          rintro e w2 ⟨hp1, -, hw2⟩
          have he := hp1 z (by rw [← HLS.out]; exact HZ.out)
          subst he
          have hwi2 : All w1 w2 := hwi.trans hw2
          clear hp1
          go_wp2_with fail
          have hwi3 : All w1 (w2.alloc (.cells #[.string z.paper, .int .i64 z.lo, .int .i64 z.hi] 47)) := hwi2.then_alloc _
          have hxb := heap_at w2 (.cells #[.string z.paper, .int .i64 z.lo, .int .i64 z.hi] 47) _ rfl
          have cx := cell_at (i := 1) hxb rfl
          obtain ⟨xb, hxbe⟩ : ∃ xb, xb = w2.heap.size := ⟨_, rfl⟩
          rw [← hxbe] at cx ⊢
          have hf3 := hf.keep RFin.ok hwi3
          have HP3 := Lib.hid (HP.out.keep hwi3)
          clear hxb hxbe
          generalize w2.alloc (.cells #[.string z.paper, .int .i64 z.lo, .int .i64 z.hi] 47) = w3 at *
          obtain ⟨bf, of, f', -, -, haf, -, -, ct, -, -, -, -, -, hf', -, -⟩ := hf3.atFin (k := ix) hix
          have hff : f' = f := by rw [HFX.out] at hf'; injection hf' with hf'; exact hf'.symm
          subst hff
          subst haf
          clear hf' hw2 hwi hwi2 u0 u1 u2
          have hbl : (⟨#[32, 32]⟩ : ByteArray).size = 2 := rfl
          have hnl : (⟨#[10]⟩ : ByteArray).size = 1 := rfl
          obtain ⟨t1, ht1, hz1', g1⟩ := cat_run Tryz.prog ⟨#[32, 32]⟩ f'.title (by omega)
          obtain ⟨t2, ht2, hz2', g2⟩ := cat_run Tryz.prog t1 ⟨#[32, 32]⟩ (by omega)
          obtain ⟨t3, ht3, hz3', g3⟩ := cat_run Tryz.prog t2 ⟨(Lib.itoa z.lo).toArray⟩ (by omega)
          obtain ⟨t4, ht4, hz4', g4⟩ := cat_run Tryz.prog t3 ⟨#[10]⟩ (by omega)
          obtain ⟨t5, ht5, hz5', g5⟩ := cat_run Tryz.prog s2 t4 (by omega)
          have HT := Lib.hid (show t5 = s2 ++ lineC f'.title z.lo by rw [ht5, ht4, ht3, ht2, ht1]; rfl)
          clear ht1 ht2 ht3 ht4 ht5 hz1' hz2' hz3' hz4' hz5' hbl hnl
          go_region_held3 (fun w' => w'.cell? ⟨xb, 1, none⟩ = some (.int .i64 z.lo) ∧ w'.cell? ⟨bf, of + ix * 4 + 1, none⟩ = some (.string f'.title)) (first | go_keep | exact ⟨by assumption, by assumption⟩) (first
            | (go_at_call 65; refine (finalAt_any _ lf cf xs y _ (hf3.keep RFin.ok (by repeat (first | exact Kept.refl _ _ | refine Kept.then_drew ?_ | refine Kept.then_drewN ?_ _ | refine Kept.then_alloc ?_ _))) (by omega)).mono ?_; rintro e q1 ⟨rfl, hq1⟩; rw [HIX.out]; have hp1 : All w3 q1 := Kept.trans (by repeat (first | exact Kept.refl _ _ | refine Kept.then_drew ?_ | refine Kept.then_drewN ?_ _ | refine Kept.then_alloc ?_ _)) hq1; have a1 := hp1.cell cx trivial; have a2 := hp1.cell ct trivial)
            | (go_at_call 59; refine (itoa_any _ (by omega) (by omega) _ (HP3.out.keep (hp1.trans (by repeat (first | exact Kept.refl _ _ | refine Kept.then_drew ?_ | refine Kept.then_drewN ?_ _ | refine Kept.then_alloc ?_ _))))).mono ?_; rintro e q2 ⟨rfl, hq2⟩; have hp2 : All w3 q2 := Kept.trans (hp1.trans (by repeat (first | exact Kept.refl _ _ | refine Kept.then_drew ?_ | refine Kept.then_drewN ?_ _ | refine Kept.then_alloc ?_ _))) hq2; have b1 := hp2.cell cx trivial; have b2 := hp2.cell ct trivial))
          all_goals
            go_wp2_with fail
            go_roundw
            case rel => exact ⟨j + 1, by omega, by go_num, t5, rfl, by rw [papC_succ HYT.out, HTI.out, HLO.out, HT.out, data_app, HS2.out, List.append_assoc, List.append_assoc], hwi3.trans (hp2.trans (by repeat (first | exact Kept.refl _ _ | refine Kept.then_drew ?_ | refine Kept.then_drewN ?_ _ | refine Kept.then_alloc ?_ _)))⟩
            case measure => simp [intOf]; omega
        · have hdj : decide ((j : Int) < (x.papers.length : Int)) = false := by simp; omega
          go_wp2_with fail
          go_roundw
          case rel => exact ⟨k + 1, by omega, by go_num, s2, rfl, by rw [HS2.out, chapC_succ (take_succ Hx.out), List.take_of_length_le (l := x.papers) (by omega)], hwi⟩
          case measure => simp [intOf]; omega
    · have hd : decide ((k : Int) < (lv : Int)) = false := by simp; omega
      go_wp2_with fail
      go_ret
      refine ⟨ret_str ?_, hk0.trans hwo⟩
      have h1 := HS.out
      rw [List.take_of_length_le (by have := Hlen.out; omega)] at h1
      rw [← HLS.out, ← h1]
end Go.Proofs.YtiecaedgphdfdaaGreatDoor
