/- Equal of leaves; Pages, At; PaperOn, LeafOf. -/
import Derived.Test.YtiecaedgphdfdaaGreatDoorJa
import Derived.Test.YtiecaedgphdfdaaGreatDoorVe
namespace Go.Proofs.YtiecaedgphdfdaaGreatDoor
open Go.RowKit

theorem Sl.atLeaf {F : Nat → Prop} {w : World} {a : Option Addr} {len : Nat} {xs : List Leaf3} (h : Sl RLeaf 3 F w a len xs) {k : Nat} (hk : k < len) :
    ∃ b off x, a = some ⟨b, off, none⟩ ∧ F b ∧ w.cell? ⟨b, off + k * 3, none⟩ = some (.string x.paper) ∧ w.cell? ⟨b, off + k * 3 + 1, none⟩ = some (.int .i64 x.lo) ∧ w.cell? ⟨b, off + k * 3 + 2, none⟩ = some (.int .i64 x.hi) ∧
      x.paper.size ≤ 1000000 ∧ xs[k]? = some x ∧ xs = xs.take k ++ x :: xs.drop (k + 1) ∧ xs.take (k + 1) = xs.take k ++ [x] := by
  obtain ⟨b, off, vs, x, ha, hF, h1, h2, ⟨rfl, hsm⟩, h4, h5, h6⟩ := h.at hk
  exact ⟨b, off, x, ha, hF, by simpa using h2 0 (by simp), by simpa using h2 1 (by simp), by simpa using h2 2 (by simp), hsm, h4, h5, h6⟩

set_option maxHeartbeats 800000 in
theorem equalLeaf_same (a1 : Option Addr) (l1 c1 : Nat) (a2 : Option Addr) (l2 c2 : Nat) (cs : List Leaf3) (w : World) (h1 : Sl RLeaf 3 (fun _ => True) w a1 l1 cs) (h2 : Sl RLeaf 3 (fun _ => True) w a2 l2 cs) (hl : l1 ≤ 1000000) :
    Calls Tryz.prog 18 #[.slice a1 l1 c1, .slice a2 l2 c2] w fun e w' => e = .returned (.bool true) ∧ All w w' := by
  have e1 := h1.len
  have e2 := h2.len
  have e3 : l2 = l1 := by omega
  subst e3
  clear e1 e2
  go_enter Tryz.func18, Tryz.ntmps18
  go_wp2_with fail
  go_loopw [13] (fun i wr => ∃ k : Nat, k ≤ l2 ∧ i = .int .i64 k ∧ All w wr) (fun i _ => l2 - (intOf i).toNat)
  case atStart => exact ⟨0, Nat.zero_le _, rfl, Kept.refl _ _⟩
  case round =>
    obtain ⟨k, hk, rfl, hall⟩ := hrel
    by_cases hlt : k < l2
    · obtain ⟨b1, o1, y1, ha1, -, p0, p1, p2, -, hy1, -, -⟩ := (h1.keep RLeaf.ok hall).atLeaf hlt
      obtain ⟨b2, o2, y2, ha2, -, q0, q1, q2, -, hy2, -, -⟩ := (h2.keep RLeaf.ok hall).atLeaf hlt
      have hy : y2 = y1 := by rw [hy1] at hy2; injection hy2 with hy2; exact hy2.symm
      subst hy
      subst ha1
      subst ha2
      clear h1 h2 hy1 hy2
      go_wp2_with fail
      go_quiet (fail)
      go_wp2_with fail
      go_roundw
      case rel => exact ⟨k + 1, by omega, by go_num, hall.then_drewN _⟩
      case measure => simp [intOf]; omega
    · have hd : decide ((k : Int) < (l2 : Int)) = false := by simp; omega
      go_wp2_with fail
      go_ret
      exact ⟨rfl, hall⟩

/-- What is known of a volume and finals without error. -/
structure VolOk (first : Int) (right : Bool) (cs : List Chap) (xs : List Fin4) : Prop where
  fin : finalsF xs = 0
  lo : 1 ≤ first
  hi : first ≤ 5000
  len : cs.length ≤ 40
  chap : chapsF xs [] cs = 0
theorem VolOk.of {first : Int} {right : Bool} {cs : List Chap} {xs : List Fin4} (h : volF first right cs xs = 0) : VolOk first right cs xs := by
  unfold volF at h
  by_cases h1 : finalsF xs = 0
  · rw [if_neg (by simp [h1])] at h
    by_cases h2 : first < 1 ∨ 5000 < first
    · rw [if_pos h2] at h; omega
    · rw [if_neg h2] at h
      by_cases h3 : 40 < cs.length
      · rw [if_pos h3] at h; omega
      · rw [if_neg h3] at h
        by_cases h4 : chapsF xs [] cs = 0
        · exact ⟨h1, by omega, by omega, by omega, h4⟩
        · rw [if_pos h4] at h; exact absurd h h4
  · rw [if_pos h1] at h; exact absurd h h1
/-- The leaves of a volume. -/
abbrev lvs (first : Int) (right : Bool) (cs : List Chap) (xs : List Fin4) : List Leaf3 := leavesF xs right first (allP cs)

def PagesPost (er : Int) (ls : List Leaf3) (w : World) (e : Ending) (w' : World) : Prop :=
  ∃ a cap n, e = .returned (.tuple #[.slice a n cap, .int .i64 er]) ∧ (er ≠ 0 → n = 0) ∧ (er = 0 → n = ls.length ∧ Sl RLeaf 3 (fun _ => True) w' a n ls) ∧ All w w'

theorem ret_pair {s t : ByteArray} {a b : Int} (h : s = t) (h2 : a = b) : Ending.returned (.tuple #[.string s, .int .i64 a]) = .returned (.tuple #[.string t, .int .i64 b]) := by rw [h, h2]
theorem ret_str {s t : ByteArray} (h : s = t) : Ending.returned (.string s) = .returned (.string t) := by rw [h]
/-- The search over a list up to place k has found nothing. -/
def NotF {α : Type} (p : α → Bool) (ls : List α) (k : Nat) : Prop := (ls.drop k).find? p = ls.find? p
section
variable {α : Type} {p : α → Bool} {ls : List α} {k : Nat} {x : α}
theorem NotF.zero (p : α → Bool) (ls : List α) : NotF p ls 0 := by simp [NotF]
theorem NotF.next (h : NotF p ls k) (hx : ls[k]? = some x) (hp : p x = false) : NotF p ls (k + 1) := by
  unfold NotF at *
  rw [drop_at hx, List.find?_cons_of_neg (by simp [hp])] at h
  exact h
theorem NotF.found (h : NotF p ls k) (hx : ls[k]? = some x) (hp : p x = true) : ls.find? p = some x := by
  unfold NotF at h
  rw [drop_at hx, List.find?_cons_of_pos (by simp [hp])] at h
  exact h.symm
theorem NotF.none (h : NotF p ls k) (hk : ls.length ≤ k) : ls.find? p = none := by
  unfold NotF at h
  rw [List.drop_of_length_le hk] at h
  exact h.symm
end
def onP (page : Int) (x : Leaf3) : Bool := decide (x.lo ≤ page ∧ page ≤ x.hi)
def isP (p : ByteArray) (x : Leaf3) : Bool := decide (x.paper = p)
theorem onPage_eq (page : Int) (ls : List Leaf3) : onPage page ls = ls.find? (onP page) := rfl
theorem leafOf_eq (p : ByteArray) (ls : List Leaf3) : leafOf ls p = ls.find? (isP p) := rfl
noncomputable def atE (first : Int) (right : Bool) (cs : List Chap) (xs : List Fin4) (page : Int) : Int := if volF first right cs xs ≠ 0 then volF first right cs xs else if (onPage page (lvs first right cs xs)).isSome = true then 0 else 8
noncomputable def atS (first : Int) (right : Bool) (cs : List Chap) (xs : List Fin4) (page : Int) : ByteArray := if volF first right cs xs ≠ 0 then ⟨#[]⟩ else onPageS page (lvs first right cs xs)
section
variable {first : Int} {right : Bool} {cs : List Chap} {xs : List Fin4} {page : Int} {x : Leaf3}
theorem atE_bad (h : volF first right cs xs ≠ 0) : atE first right cs xs page = volF first right cs xs := by rw [atE, if_pos h]
theorem atS_bad (h : volF first right cs xs ≠ 0) : atS first right cs xs page = ⟨#[]⟩ := by rw [atS, if_pos h]
theorem atE_some (h : volF first right cs xs = 0) (hx : onPage page (lvs first right cs xs) = some x) : atE first right cs xs page = 0 := by rw [atE, if_neg (by simp [h]), hx]; rfl
theorem atS_some (h : volF first right cs xs = 0) (hx : onPage page (lvs first right cs xs) = some x) : atS first right cs xs page = x.paper := by rw [atS, if_neg (by simp [h]), onPageS, hx]
theorem atE_none (h : volF first right cs xs = 0) (hx : onPage page (lvs first right cs xs) = none) : atE first right cs xs page = 8 := by rw [atE, if_neg (by simp [h]), hx]; rfl
theorem atS_none (h : volF first right cs xs = 0) (hx : onPage page (lvs first right cs xs) = none) : atS first right cs xs page = ⟨#[]⟩ := by rw [atS, if_neg (by simp [h]), onPageS, hx]
end

set_option maxRecDepth 100000 in
set_option maxHeartbeats 3200000 in
theorem pages_any (first : Int) (right : Bool) (av : Option Addr) (lv cv : Nat) (cs : List Chap) (af : Option Addr) (lf cf : Nat) (xs : List Fin4) (w : World)
    (hv : Sl RChap 2 (fun _ => True) w av lv cs) (hf : Sl RFin 4 (fun _ => True) w af lf xs) (hlv : lv ≤ 1000) (hlf : lf ≤ 1000) (hg : Glob w) :
    Calls Tryz.prog 11 #[.agg #[.int .i64 first, .bool right, .slice av lv cv], .slice af lf cf] w (PagesPost (volF first right cs xs) (lvs first right cs xs) w) := by
  have HG := Lib.hid hg
  have hk0 : All w (w.alloc (.cells #[.int .i64 first, .bool right, .slice av lv cv] 30)) := Kept.alloc _ _ _
  have hblk := heap_at w (.cells #[.int .i64 first, .bool right, .slice av lv cv] 30) _ rfl
  have v0 := cell_at (i := 0) hblk rfl
  have v1 := cell_at (i := 1) hblk rfl
  have v2 := cell_at (i := 2) hblk rfl
  clear hblk hg
  by_cases h0 : volF first right cs xs = 0
  · rw [h0]
    have OK := Lib.hid (VolOk.of h0)
    have hlv' : lv ≤ 40 := by have := OK.out.len; have := hv.len; omega
    have HRs := Lib.hid (finalsF_rises OK.out.fin)
    go_enter Tryz.func11, Tryz.ntmps11
    go_wp2_with fail
    refine (checkVolume_any first right av lv cv cs af lf cf xs _ (hv.keep RChap.ok hk0) (hf.keep RFin.ok hk0) hlv hlf (HG.out.keep hk0)).mono ?_
    rintro e w2 ⟨rfl, hw2⟩
    have hk2 := hk0.trans hw2
    have v0' := hw2.cell v0 trivial
    have v1' := hw2.cell v1 trivial
    have v2' := hw2.cell v2 trivial
    rw [h0]
    go_wp2_with fail
    refine (leaves_any first right av lv cv cs af lf cf xs _ (hv.keep RChap.ok hk2) (hf.keep RFin.ok hk2) hlv' hlf HRs.out.1 HRs.out.2 (chapsF_found OK.out.chap) OK.out.lo OK.out.hi).mono ?_
    rintro e w3 ⟨v, rfl, hacc, hw3⟩
    have hk3 := hk2.trans hw3
    obtain ⟨a, cap, rfl, hsl⟩ := hacc.sl RLeaf.ok (by decide) (G := fun _ => True) (fun _ h => h.elim) (fun _ _ => trivial)
    obtain ⟨ls, hls⟩ : ∃ ls, ls = leavesF xs right first (allP cs) := ⟨_, rfl⟩
    have HLS := Lib.hid hls
    rw [← hls] at hsl ⊢
    obtain ⟨n, hn⟩ : ∃ n, n = ls.length := ⟨_, rfl⟩
    have HN := Lib.hid hn
    rw [← hn] at hsl ⊢
    clear hacc hn hls
    go_wp2_with fail
    go_ret2
    exact ⟨a, cap, n, rfl, fun h => absurd rfl h, fun _ => ⟨by rw [lvs, ← HLS.out]; exact HN.out, by rw [lvs, ← HLS.out]; exact hsl⟩, hk3⟩
  · obtain ⟨er, her⟩ : ∃ er, er = volF first right cs xs := ⟨_, rfl⟩
    have hne : (er != 0) = true := by rw [her]; simpa using h0
    have HR := Lib.hid her
    go_enter Tryz.func11, Tryz.ntmps11
    go_wp2_with fail
    refine (checkVolume_any first right av lv cv cs af lf cf xs _ (hv.keep RChap.ok hk0) (hf.keep RFin.ok hk0) hlv hlf (HG.out.keep hk0)).mono ?_
    rintro e w2 ⟨rfl, hw2⟩
    have hk2 := hk0.trans hw2
    have v0' := hw2.cell v0 trivial
    have v1' := hw2.cell v1 trivial
    have v2' := hw2.cell v2 trivial
    rw [← her]
    clear her h0
    go_wp2_with fail
    go_ret2
    exact ⟨none, 0, 0, by rw [← HR.out]; rfl, fun _ => rfl, (fun h => by rw [← HR.out] at h; rw [h] at hne; cases hne), hk2⟩

set_option maxRecDepth 100000 in
set_option maxHeartbeats 3200000 in
theorem at_any (first : Int) (right : Bool) (av : Option Addr) (lv cv : Nat) (cs : List Chap) (af : Option Addr) (lf cf : Nat) (xs : List Fin4) (page : Int) (w : World)
    (hv : Sl RChap 2 (fun _ => True) w av lv cs) (hf : Sl RFin 4 (fun _ => True) w af lf xs) (hlv : lv ≤ 1000) (hlf : lf ≤ 1000) (hg : Glob w) :
    Calls Tryz.prog 12 #[.agg #[.int .i64 first, .bool right, .slice av lv cv], .slice af lf cf, .int .i64 page] w fun e w' => e = .returned (.tuple #[.string (atS first right cs xs page), .int .i64 (atE first right cs xs page)]) ∧ All w w' := by
  have HG := Lib.hid hg
  have hk0 : All w (w.alloc (.cells #[.int .i64 first, .bool right, .slice av lv cv] 30)) := Kept.alloc _ _ _
  have hblk := heap_at w (.cells #[.int .i64 first, .bool right, .slice av lv cv] 30) _ rfl
  have v0 := cell_at (i := 0) hblk rfl
  have v1 := cell_at (i := 1) hblk rfl
  have v2 := cell_at (i := 2) hblk rfl
  clear hblk hg
  by_cases h0 : volF first right cs xs = 0
  · have H0 := Lib.hid h0
    have OK := Lib.hid (VolOk.of h0)
    have hlv' : lv ≤ 40 := by have := OK.out.len; have := hv.len; omega
    have HRs := Lib.hid (finalsF_rises OK.out.fin)
    go_enter Tryz.func12, Tryz.ntmps12
    go_wp2_with fail
    refine (checkVolume_any first right av lv cv cs af lf cf xs _ (hv.keep RChap.ok hk0) (hf.keep RFin.ok hk0) hlv hlf (HG.out.keep hk0)).mono ?_
    rintro e w2 ⟨rfl, hw2⟩
    have hk2 := hk0.trans hw2
    have v0' := hw2.cell v0 trivial
    have v1' := hw2.cell v1 trivial
    have v2' := hw2.cell v2 trivial
    rw [h0]
    go_wp2_with fail
    refine (leaves_any first right av lv cv cs af lf cf xs _ (hv.keep RChap.ok hk2) (hf.keep RFin.ok hk2) hlv' hlf HRs.out.1 HRs.out.2 (chapsF_found OK.out.chap) OK.out.lo OK.out.hi).mono ?_
    rintro e w3 ⟨v, rfl, hacc, hw3⟩
    have hk3 := hk2.trans hw3
    obtain ⟨a, cap, rfl, hsl⟩ := hacc.sl RLeaf.ok (by decide) (G := fun _ => True) (fun _ h => h.elim) (fun _ _ => trivial)
    obtain ⟨ls, hls⟩ : ∃ ls, ls = leavesF xs right first (allP cs) := ⟨_, rfl⟩
    have HLS := Lib.hid hls
    rw [← hls] at hsl ⊢
    obtain ⟨n, hn⟩ : ∃ n, n = ls.length := ⟨_, rfl⟩
    have HN := Lib.hid hn
    have hn40 : n ≤ 40000 := by rw [hn, hls, leavesF_length]; exact hv.allP_le hlv'
    rw [← hn] at hsl ⊢
    clear hacc hn hls h0
    go_wp2_with fail
    go_loopw [21] (fun i wr => ∃ k : Nat, k ≤ n ∧ i = .int .i64 k ∧ NotF (onP page) ls k ∧ All w3 wr) (fun i _ => n - (intOf i).toNat)
    case atStart => exact ⟨0, Nat.zero_le _, rfl, NotF.zero _ _, Kept.refl _ _⟩
    case round =>
      obtain ⟨k, hk, rfl, hnot, hwr⟩ := hrel
      have HNF := Lib.hid hnot
      clear hnot
      by_cases hlt : k < n
      · obtain ⟨b, o, x, ha, -, c0, c1, c2, hz, hx, -, -⟩ := (hsl.keep RLeaf.ok hwr).atLeaf hlt
        subst ha
        have Hx := Lib.hid hx
        clear hx
        by_cases hlo : x.lo ≤ page
        · have dlo : decide (x.lo ≤ page) = true := by simpa using hlo
          by_cases hhi : page ≤ x.hi
          · have dhi : decide (page ≤ x.hi) = true := by simpa using hhi
            go_wp2_with fail
            go_ret2
            have hon : onPage page (lvs first right cs xs) = some x := by
              show onPage page (leavesF xs right first (allP cs)) = some x
              rw [← HLS.out, onPage_eq]
              exact HNF.out.found Hx.out (by simp [onP, hlo, hhi])
            exact ⟨ret_pair (atS_some H0.out hon).symm (atE_some H0.out hon).symm, hk3.trans (hwr.then_alloc _)⟩
          · have dhi : decide (page ≤ x.hi) = false := by simpa using hhi
            go_wp2_with fail
            go_roundw
            case rel => exact ⟨k + 1, by omega, by go_num, HNF.out.next Hx.out (by simp [onP, hhi]), hwr.then_alloc _⟩
            case measure => simp [intOf]; omega
        · have dlo : decide (x.lo ≤ page) = false := by simpa using hlo
          go_wp2_with fail
          go_roundw
          case rel => exact ⟨k + 1, by omega, by go_num, HNF.out.next Hx.out (by simp [onP, hlo]), hwr.then_alloc _⟩
          case measure => simp [intOf]; omega
      · have hd : decide ((k : Int) < (n : Int)) = false := by simp; omega
        go_wp2_with fail
        go_ret2
        have hon : onPage page (lvs first right cs xs) = none := by
          show onPage page (leavesF xs right first (allP cs)) = none
          rw [← HLS.out, onPage_eq]
          exact HNF.out.none (by have := HN.out; omega)
        exact ⟨ret_pair (atS_none H0.out hon).symm (atE_none H0.out hon).symm, hk3.trans hwr⟩
  · obtain ⟨er, her⟩ : ∃ er, er = volF first right cs xs := ⟨_, rfl⟩
    have hne : (er != 0) = true := by rw [her]; simpa using h0
    have H0 := Lib.hid h0
    have HR := Lib.hid her
    go_enter Tryz.func12, Tryz.ntmps12
    go_wp2_with fail
    refine (checkVolume_any first right av lv cv cs af lf cf xs _ (hv.keep RChap.ok hk0) (hf.keep RFin.ok hk0) hlv hlf (HG.out.keep hk0)).mono ?_
    rintro e w2 ⟨rfl, hw2⟩
    have hk2 := hk0.trans hw2
    have v0' := hw2.cell v0 trivial
    have v1' := hw2.cell v1 trivial
    have v2' := hw2.cell v2 trivial
    rw [← her]
    clear her h0
    go_wp2_with fail
    go_ret2
    exact ⟨ret_pair (atS_bad H0.out).symm (by rw [atE_bad H0.out]; exact HR.out), hk2⟩
end Go.Proofs.YtiecaedgphdfdaaGreatDoor
