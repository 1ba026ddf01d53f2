/- known: people.Read at one text. -/
import Derived.Test.YtgobnlgmbplggaaGreatDoorK1
import Derived.Test.YtgobnlgmbplggaaGreatDoorU0
import Derived.Test.YtgobnlgmbplggaaGreatDoorS1
namespace Go.Proofs.YtgobnlgmbplggaaGreatDoor
open Go.RowKit

/-- Cells as they stand. -/
def RIs (l : List Value) : Rel Unit := fun _ _ vs _ => vs = l
theorem RIs.ok (l : List Value) : (RIs l).Ok := ⟨fun _ h => h, fun _ h => h, fun h => h⟩
theorem Acc.one {l : List Value} {n : Nat} {T : TypeId} {F : Nat → Prop} {B : Nat} {w : World} {v : Value} (h : Acc (RIs l) n T F B w v [()]) : ∃ g cap cur, v = .slice (some ⟨g, 0, none⟩) 1 cap ∧ B ≤ g ∧ w.heap[g]? = some (.cells cur T) ∧ cur.toList.take n = l := by
  obtain ⟨cells, ho, he⟩ := h
  rcases ho.2 with ⟨rfl, hn⟩ | ⟨g, cap, cur, rfl, hb, hgg, hnc, hcm, hcs, htake⟩
  · simp at hn
  · refine ⟨g, cap, cur, rfl, hb, hgg, ?_⟩
    have h1 : (cells.drop (0 * n)).take n = l := he 0 (by simp)
    rw [Nat.zero_mul, List.drop_zero] at h1
    rw [show [()].length * n = n from Nat.one_mul n] at htake
    rw [← h1, ← htake, List.take_take, Nat.min_self]
theorem cur_at {cur : Array Value} {n j : Nat} {l : List Value} {u : Value} (h : cur.toList.take n = l) (hj : l[j]? = some u) : cur[j]? = some u := by
  rw [← h, List.getElem?_take] at hj
  split at hj
  · simpa using hj
  · cases hj
theorem cut_lit (s a b : ByteArray) (z : Bool) (w : World) (hs : s.size < 4294967281) (hg : Glob w) (h : Lib.cut s.data.toList [32] = (a.data.toList, b.data.toList, z)) :
    Calls Tryz.prog 188 #[.string s, .string ⟨#[32]⟩] w fun e w' => e = .returned (.tuple #[.string a, .string b, .bool z]) ∧ All w w' := by
  obtain ⟨mx, hmx⟩ := hg.most
  refine (Tryz.strings_Cut s ⟨#[32]⟩ mx w hs hmx).mono ?_
  rintro e w' ⟨rfl, n, rfl⟩
  rw [show (⟨#[32]⟩ : ByteArray).data.toList = [32] from rfl, h]
  exact ⟨rfl, Kept.drewN _ _ _⟩
theorem enter1_any (rb : Nat) (v0 v1 v2 v3 : Value) (w : World) (h : w.heap[rb]? = some (.cells #[v0, v1, v2, v3, .int .i64 0] 190)) :
    Calls Tryz.prog 190 #[.pointer (some ⟨rb, 0, none⟩), .int .i64 1] w fun e w' => e = .returned (.bool true) ∧ w' = w.setCell ⟨rb, 4, none⟩ (.int .i64 1) := by
  have c4 := cell_at (i := 4) h rfl
  have z4 : w.frozen? ⟨rb, 4, none⟩ = false := frozen_at h
  clear h
  go_enter Tryz.func190, Tryz.ntmps190
  go_wp2_with fail
  go_ret
  exact ⟨rfl, rfl⟩
theorem enter2_any (rb : Nat) (v0 v1 v2 v3 : Value) (w : World) (h : w.heap[rb]? = some (.cells #[v0, v1, v2, v3, .int .i64 1] 190)) :
    Calls Tryz.prog 190 #[.pointer (some ⟨rb, 0, none⟩), .int .i64 2] w fun e w' => e = .returned (.bool true) ∧ w' = w.setCell ⟨rb, 4, none⟩ (.int .i64 2) := by
  have c4 := cell_at (i := 4) h rfl
  have z4 : w.frozen? ⟨rb, 4, none⟩ = false := frozen_at h
  clear h
  go_enter Tryz.func190, Tryz.ntmps190
  go_wp2_with fail
  go_ret
  exact ⟨rfl, rfl⟩
theorem last_any (rb pb cap : Nat) (v0 v2 v3 v4 : Value) (w : World) (h : w.heap[rb]? = some (.cells #[v0, .slice (some ⟨pb, 0, none⟩) 1 cap, v2, v3, v4] 190)) :
    Calls Tryz.prog 191 #[.pointer (some ⟨rb, 0, none⟩)] w fun e w' => e = .returned (.pointer (some ⟨pb, 0, none⟩)) ∧ All w w' := by
  have c1 := cell_at (i := 1) h rfl
  have f5 := lt_of_cell c1
  have f4 : IntKind.i64.wrap 0 = 0 := by decide
  clear h
  go_enter Tryz.func191, Tryz.ntmps191
  go_wp2_with fail
  go_quiet (fail)
  go_wp2_with fail
  go_ret
  exact ⟨rfl, (Kept.refl _ _).then_drewN _⟩

/-- The reader behind its first line. -/
def ReadA (rb : Nat) (w0 w : World) : Prop := ∃ pb cap cur, w.heap[rb]? = some (.cells #[.slice none 0 0, .slice (some ⟨pb, 0, none⟩) 1 cap, .slice none 0 0, .slice none 0 0, .int .i64 1] 190) ∧ w.heap[pb]? = some (.cells cur 97) ∧ cur.toList.take 5 = [.string ⟨#[97, 110, 110]⟩, .slice none 0 0, .slice none 0 0, .slice none 0 0, .slice none 0 0] ∧ w0.heap.size ≤ pb ∧ But rb w0 w
set_option maxRecDepth 100000 in
set_option maxHeartbeats 6400000 in
theorem wordsA_any (rb lb : Nat) (w : World) (h : w.heap[rb]? = some (.cells #[.slice none 0 0, .slice none 0 0, .slice none 0 0, .slice none 0 0, .int .i64 0] 190)) (hl : w.cell? ⟨lb, 0, none⟩ = some (.string ⟨#[97, 110, 110]⟩)) (hne : lb ≠ rb) :
    Calls Tryz.prog 193 #[.pointer (some ⟨rb, 0, none⟩), .string ⟨#[112, 101, 114, 115, 111, 110]⟩, .slice (some ⟨lb, 0, none⟩) 1 1] w fun e w' => e = .returned (.bool true) ∧ ReadA rb w w' := by
  have HE := Lib.hid (enter1_any rb _ _ _ _ w h)
  have h1 := heap_setCell_at w rb 4 (.int .i64 1) _ _ _ h
  simp only [List.setIfInBounds_toArray, List.set_cons_succ, List.set_cons_zero] at h1
  have hk1 : But rb w (w.setCell ⟨rb, 4, none⟩ (.int .i64 1)) := Kept.setCell _ _ _ (fun h => h rfl)
  have hl1 := hk1.cell hl hne
  obtain ⟨w1, hw1⟩ : ∃ z, z = w.setCell ⟨rb, 4, none⟩ (.int .i64 1) := ⟨_, rfl⟩
  rw [← hw1] at HE h1 hk1 hl1
  have HB1 := Lib.hid h1
  have HK1 := Lib.hid hk1
  clear h h1 hk1 hw1
  go_enter Tryz.func193, Tryz.ntmps193
  go_wp2_with fail
  refine HE.out.mono ?_
  rintro e w1 ⟨rfl, rfl⟩
  have e1 := cell_at (i := 1) HB1.out rfl
  have z1 : w1.frozen? ⟨rb, 1, none⟩ = false := frozen_at HB1.out
  have hlr : rb < w1.heap.size := lt_of_cell e1
  have hsz := HK1.out.size
  clear HE
  go_upto_region 8 with fail
  go_region_law (first
    | (refine step_append1 (RIs.ok [.string ⟨#[97, 110, 110]⟩, .slice none 0 0, .slice none 0 0, .slice none 0 0, .slice none 0 0]) _ (by rfl) _ _ 27 (by rfl) w.heap.size 97 (.agg #[.string ⟨#[]⟩, .slice none 0 0, .slice none 0 0, .slice none 0 0, .slice none 0 0]) 5 112 Tryz.underlying27 (by kernel_rfl) rfl (by decide) (fun _ => False) (.slice none 0 0) [] (by rfl) (Acc.nil _ _ _ _ _ _) ⟨w1.heap.size, 0, none⟩ 1 [.string ⟨#[97, 110, 110]⟩, .slice none 0 0, .slice none 0 0, .slice none 0 0, .slice none 0 0] (by rfl) rfl (World.news_of_block (cs := #[.string ⟨#[97, 110, 110]⟩, .slice none 0 0, .slice none 0 0, .slice none 0 0, .slice none 0 0]) (heap_alloc_new _ _)) (by simp [Value.oneCell']) () rfl (by decide) (by decide) (by simp; omega) ?_; intro p8 c8 w8 hacc8 hgrow hat8; have hk8 : All w1 w8 := Kept.grown (by repeat (first | exact Kept.refl _ _ | refine Kept.then_drew ?_ | refine Kept.then_drewN ?_ _ | refine Kept.then_alloc ?_ _)) hgrow (fun k hk => by simp [Value.ownBlock] at hk); have hb8 := hk8.heap HB1.out trivial; have q1 := cell_at (i := 1) hb8 rfl; have y1 : w8.frozen? ⟨rb, 1, none⟩ = false := frozen_at hb8))
  all_goals
    obtain ⟨g, cap, cur, e8, hg1, hg2, hg3⟩ := hacc8.one
    injection e8 with e8 e9 e10
    subst e8
    subst e10
    have h9 := heap_setCell_at w8 rb 1 (.slice (some ⟨g, 0, none⟩) 1 c8) _ _ _ hb8
    simp only [List.setIfInBounds_toArray, List.set_cons_succ, List.set_cons_zero] at h9
    have hgr : g ≠ rb := fun e => by
      rw [e, hb8] at hg2
      injection hg2 with hg2
      injection hg2 with _ hg2
      exact absurd hg2 (by decide)
    have hset : Kept (fun b => b ≠ rb) w8 (w8.setCell ⟨rb, 1, none⟩ (.slice (some ⟨g, 0, none⟩) 1 c8)) := Kept.setCell _ _ _ (fun h => h rfl)
    have HF := Lib.hid (show ReadA rb w (w8.setCell ⟨rb, 1, none⟩ (.slice (some ⟨g, 0, none⟩) 1 c8)) from ⟨g, c8, cur, h9, hset.heap hg2 hgr, hg3, hg1, (HK1.out.trans hk8.all).trans hset⟩)
    clear hacc8 hgrow hat8 hk8 hb8 q1 y1 hg1 hg2 hg3 h9 hgr hset e9
    go_wp2_with fail
    go_ret
    exact ⟨rfl, HF.out⟩
end Go.Proofs.YtgobnlgmbplggaaGreatDoor

/- known: the two lines, and Read. -/
namespace Go.Proofs.YtgobnlgmbplggaaGreatDoor
open Go.RowKit

def perK : Per := ⟨⟨#[97, 110, 110]⟩, [⟨⟨#[65, 110, 110, 32, 76, 101, 101]⟩, 0⟩], [], [], []⟩
theorem key_ann : isKeyB ⟨#[97, 110, 110]⟩ = true := isKeyB_true ⟨fun i h _ => by
  have h : i < 3 := h
  have h3 : i = 0 ∨ i = 1 ∨ i = 2 := by omega
  rcases h3 with rfl | rfl | rfl <;> exact Or.inl (by decide +revert), by decide, by decide⟩
theorem nam_lee : namB ⟨#[65, 110, 110, 32, 76, 101, 101]⟩ = true := by
  have h1 : plainB ⟨#[65, 110, 110, 32, 76, 101, 101]⟩ = true := by
    rw [plainB_ok (fun i h _ => by
      have h : i < 7 := h
      have h3 : i = 0 ∨ i = 1 ∨ i = 2 ∨ i = 3 ∨ i = 4 ∨ i = 5 ∨ i = 6 := by omega
      rcases h3 with rfl | rfl | rfl | rfl | rfl | rfl | rfl <;> decide +revert)]
    have h2 : trimmed ⟨#[65, 110, 110, 32, 76, 101, 101]⟩ := by unfold trimmed; kernel_rfl
    rw [@decide_eq_true _ (Classical.propDecidable _) h2]
    exact (by kernel_rfl : (Lib.validD ([65, 110, 110, 32, 76, 101, 101] : List UInt8) && true && !Lib.contains ([65, 110, 110, 32, 76, 101, 101] : List UInt8) [32, 32]) = true)
  unfold namB
  rw [h1]; rfl
theorem known_ok : worldF ⟨[], [perK], [], []⟩ = 0 := by
  have h1 : placesF [] = 0 := by unfold placesF; simp [scanF]
  have h2 : persF [] perK = 0 := by
    have : namesF perK.names = 0 := by
      unfold namesF perK
      simp [scanF, namE, nam_lee]
    unfold persF
    rw [this]
    simp [perK, homesF, mailsF, advsF, scanF]
  have h3 : peopleF [] [perK] = 0 := by
    unfold peopleF
    have : scanF (perE []) none [perK] = 0 := by
      rw [scanF, scanF]
      have : perE [] none perK = 0 := by
        unfold perE
        rw [if_neg (by rw [show perK.key = ⟨#[97, 110, 110]⟩ from rfl, key_ann]; decide), if_neg (by simp [notUp]), h2]
      simp [this]
    rw [if_neg (by decide), this, if_neg (by simp), if_neg (by simp [perK])]
  rw [worldF, h1, if_neg (by simp), h3, if_neg (by simp)]
  simp [worksF, bondsF, scanF]
theorem rows_ann : rowsB spB ⟨#[97, 110, 110]⟩ = [⟨#[97, 110, 110]⟩] := by kernel_rfl
theorem rows_txt : rowsB nlB ⟨#[112, 101, 114, 115, 111, 110, 32, 97, 110, 110, 10, 110, 97, 109, 101, 32, 48, 32, 65, 110, 110, 32, 76, 101, 101, 10]⟩ = [⟨#[112, 101, 114, 115, 111, 110, 32, 97, 110, 110]⟩, ⟨#[110, 97, 109, 101, 32, 48, 32, 65, 110, 110, 32, 76, 101, 101]⟩, ⟨#[]⟩] := by kernel_rfl
theorem cut_a : Lib.cut (⟨#[112, 101, 114, 115, 111, 110, 32, 97, 110, 110]⟩ : ByteArray).data.toList [32] = ((⟨#[112, 101, 114, 115, 111, 110]⟩ : ByteArray).data.toList, (⟨#[97, 110, 110]⟩ : ByteArray).data.toList, true) := by kernel_rfl
theorem cut_b : Lib.cut (⟨#[110, 97, 109, 101, 32, 48, 32, 65, 110, 110, 32, 76, 101, 101]⟩ : ByteArray).data.toList [32] = ((⟨#[110, 97, 109, 101]⟩ : ByteArray).data.toList, (⟨#[48, 32, 65, 110, 110, 32, 76, 101, 101]⟩ : ByteArray).data.toList, true) := by kernel_rfl
theorem cut_c : Lib.cut (⟨#[48, 32, 65, 110, 110, 32, 76, 101, 101]⟩ : ByteArray).data.toList [32] = ((⟨#[48]⟩ : ByteArray).data.toList, (⟨#[65, 110, 110, 32, 76, 101, 101]⟩ : ByteArray).data.toList, true) := by kernel_rfl
theorem num_0 : numF ⟨#[48]⟩ = some 0 := by kernel_rfl
theorem small_0 (w : World) : Calls Tryz.prog 189 #[.string ⟨#[48]⟩] w fun e w' => e = .returned (.tuple #[.int .i64 0, .bool true]) ∧ All w w' := by
  refine (small_any ⟨#[48]⟩ w).mono ?_
  rintro e w' ⟨v, ok, rfl, hw, hv⟩
  rw [num_0] at hv
  cases ok with
  | false => exact nomatch hv
  | true =>
    rw [if_pos rfl] at hv
    obtain rfl := Option.some.inj hv
    exact ⟨rfl, hw⟩
set_option maxHeartbeats 1600000 in
theorem lineA_any (rb : Nat) (w : World) (h : w.heap[rb]? = some (.cells #[.slice none 0 0, .slice none 0 0, .slice none 0 0, .slice none 0 0, .int .i64 0] 190)) (hg : Glob w) :
    Calls Tryz.prog 150 #[.pointer (some ⟨rb, 0, none⟩), .string ⟨#[112, 101, 114, 115, 111, 110, 32, 97, 110, 110]⟩] w fun e w' => e = .returned (.bool true) ∧ ReadA rb w w' := by
  have HC := Lib.hid (cut_lit ⟨#[112, 101, 114, 115, 111, 110, 32, 97, 110, 110]⟩ ⟨#[112, 101, 114, 115, 111, 110]⟩ ⟨#[97, 110, 110]⟩ true w (by decide) hg cut_a)
  have HB := Lib.hid h
  have HG := Lib.hid hg
  clear h hg
  go_enter Tryz.func150, Tryz.ntmps150
  go_wp2_with fail
  refine HC.out.mono ?_
  rintro e w1 ⟨rfl, hw1⟩
  have HW := Lib.hid (words_any ⟨#[97, 110, 110]⟩ 1 w1 (by decide) (by rw [rows_ann]; rfl) (HG.out.keep hw1))
  rw [rows_ann] at HW
  clear HC
  go_wp2_with fail
  refine HW.out.mono ?_
  rintro e w2 ⟨rfl, hw2⟩
  have hlb : w2.heap[w1.heap.size]? = some (.cells #[.string ⟨#[97, 110, 110]⟩] 9) := by rw [hw2]; exact heap_at _ _ _ rfl
  have hw12 : All w1 w2 := by rw [hw2]; exact Kept.alloc _ _ _
  have hrb := (hw1.trans hw12).heap HB.out trivial
  have HWA := Lib.hid (wordsA_any rb w1.heap.size w2 hrb (cell_at (i := 0) hlb rfl) (by have := lt_of_cell (cell_at (i := 0) HB.out rfl); have := hw1.size; dsimp only at *; omega))
  have HK := Lib.hid (hw1.trans hw12)
  clear hw2 hlb hw1 hw12 hrb HW
  obtain ⟨lb, hlb⟩ : ∃ z, z = w1.heap.size := ⟨_, rfl⟩
  rw [← hlb] at HWA ⊢
  clear hlb
  go_wp2_with fail
  refine HWA.out.mono ?_
  rintro e w3 ⟨rfl, pb, cap, cur, h1, h2, h3, h4, h5⟩
  have HF := Lib.hid (show ReadA rb w w3 from ⟨pb, cap, cur, h1, h2, h3, Nat.le_trans HK.out.size h4, HK.out.all.trans h5⟩)
  clear h1 h2 h3 h4 h5 HWA
  go_wp2_with fail
  go_ret
  exact ⟨rfl, HF.out⟩
/-- The reader behind its second line. -/
def ReadB (rb : Nat) (w0 w : World) : Prop := ∃ pb cap nb nc, w.heap[rb]? = some (.cells #[.slice none 0 0, .slice (some ⟨pb, 0, none⟩) 1 cap, .slice none 0 0, .slice none 0 0, .int .i64 2] 190) ∧ w.cell? ⟨pb, 0, none⟩ = some (.string ⟨#[97, 110, 110]⟩) ∧ w.cell? ⟨pb, 1, none⟩ = some (.slice (some ⟨nb, 0, none⟩) 1 nc) ∧ w.cell? ⟨pb, 2, none⟩ = some (.slice none 0 0) ∧ w.cell? ⟨pb, 3, none⟩ = some (.slice none 0 0) ∧ w.cell? ⟨pb, 4, none⟩ = some (.slice none 0 0) ∧
  w.cell? ⟨nb, 0, none⟩ = some (.string ⟨#[65, 110, 110, 32, 76, 101, 101]⟩) ∧ w.cell? ⟨nb, 1, none⟩ = some (.int .i64 0) ∧ 1 ≤ nc ∧ But rb w0 w
set_option maxRecDepth 100000 in
set_option maxHeartbeats 3200000 in
theorem lineB_any (rb : Nat) (w0 w : World) (h : ReadA rb w0 w) (hg : Glob w) :
    Calls Tryz.prog 150 #[.pointer (some ⟨rb, 0, none⟩), .string ⟨#[110, 97, 109, 101, 32, 48, 32, 65, 110, 110, 32, 76, 101, 101]⟩] w fun e w' => e = .returned (.bool true) ∧ ReadB rb w0 w' := by
  obtain ⟨pb, cap, cur, h1, h2, h3, h4, h5⟩ := h
  have HC := Lib.hid (cut_lit ⟨#[110, 97, 109, 101, 32, 48, 32, 65, 110, 110, 32, 76, 101, 101]⟩ ⟨#[110, 97, 109, 101]⟩ ⟨#[48, 32, 65, 110, 110, 32, 76, 101, 101]⟩ true w (by decide) hg cut_b)
  have HC2 := Lib.hid (fun (wx : World) (k : All w wx) => cut_lit ⟨#[48, 32, 65, 110, 110, 32, 76, 101, 101]⟩ ⟨#[48]⟩ ⟨#[65, 110, 110, 32, 76, 101, 101]⟩ true wx (by decide) (hg.keep k) cut_c)
  have H1 := Lib.hid h1
  have H2 := Lib.hid h2
  have H3 := Lib.hid h3
  have H4 := Lib.hid h4
  have H5 := Lib.hid h5
  have HPR := Lib.hid (show pb ≠ rb from fun e => by
    rw [e, h1] at h2
    injection h2 with h2
    injection h2 with _ h2
    exact absurd h2 (by decide))
  clear h1 h2 h3 h4 h5 hg
  go_enter Tryz.func150, Tryz.ntmps150
  go_wp2_with fail
  refine HC.out.mono ?_
  rintro e w1 ⟨rfl, hw1⟩
  have HD := Lib.hid (HC2.out w1 hw1)
  clear HC HC2
  go_wp2_with fail
  refine HD.out.mono ?_
  rintro e w2 ⟨rfl, hw2⟩
  clear HD
  go_wp2_with fail
  refine (small_0 w2).mono ?_
  rintro e w3 ⟨rfl, hw3⟩
  have hk3 := (hw1.trans hw2).trans hw3
  have hr3 := hk3.heap H1.out trivial
  have hp3 := hk3.heap H2.out trivial
  have HE := Lib.hid (enter2_any rb _ _ _ _ w3 hr3)
  have hr4 := heap_setCell_at w3 rb 4 (.int .i64 2) _ _ _ hr3
  simp only [List.setIfInBounds_toArray, List.set_cons_succ, List.set_cons_zero] at hr4
  have hk4 : But rb w3 (w3.setCell ⟨rb, 4, none⟩ (.int .i64 2)) := Kept.setCell _ _ _ (fun h => h rfl)
  have hp4 := hk4.heap hp3 HPR.out
  have HK4 := Lib.hid ((hk3.all (F := fun b => b ≠ rb)).trans hk4)
  clear hw1 hw2 hw3 hk3 hr3 hp3 hk4
  obtain ⟨w4, hw4⟩ : ∃ z, z = w3.setCell ⟨rb, 4, none⟩ (.int .i64 2) := ⟨_, rfl⟩
  rw [← hw4] at HE hr4 hp4 HK4
  clear hw4
  have HR4 := Lib.hid hr4
  have HP4 := Lib.hid hp4
  clear hr4 hp4
  go_wp2_with fail
  refine HE.out.mono ?_
  rintro e w4 ⟨rfl, rfl⟩
  clear HE
  go_wp2_with fail
  refine (last_any rb pb cap _ _ _ _ w4 HR4.out).mono ?_
  rintro e w5 ⟨rfl, hw5⟩
  have HR5 := Lib.hid (hw5.heap HR4.out trivial)
  go_wp2_with fail
  refine (last_any rb pb cap _ _ _ _ w5 HR5.out).mono ?_
  rintro e w6 ⟨rfl, hw6⟩
  have hp6 := (hw5.trans hw6).heap HP4.out trivial
  have e1 := cell_at (i := 1) hp6 (cur_at H3.out (j := 1) rfl)
  have z1 : w6.frozen? ⟨pb, 1, none⟩ = false := frozen_at hp6
  have HR6 := Lib.hid ((hw5.trans hw6).heap HR4.out trivial)
  have HP6 := Lib.hid hp6
  have HK6 := Lib.hid (HK4.out.trans (hw5.trans hw6).all)
  have hsz := HK6.out.size
  clear hp6 hw5 hw6 HR5 HR4 HP4 HK4
  go_wp2_with (at_builtin; refine wp_append1 (RIs.ok [.string ⟨#[65, 110, 110, 32, 76, 101, 101]⟩, .int .i64 0]) _ rfl _ _ 94 rfl w6.heap.size 99 (.agg #[.string ⟨#[]⟩, .int .i64 0]) 2 24 Tryz.underlying94 (by kernel_rfl) rfl (by decide) (fun _ => False) (.slice none 0 0) [] rfl (Acc.nil _ _ _ _ _ _) ⟨_, 0, none⟩ 1 [.string ⟨#[65, 110, 110, 32, 76, 101, 101]⟩, .int .i64 0] rfl rfl (World.news_of_block (cs := #[.string ⟨#[65, 110, 110, 32, 76, 101, 101]⟩, .int .i64 0]) (heap_at _ _ _ (by simp))) (by simp [Value.oneCell']) () rfl (by decide) (by decide) (by simp) ?_)
  intro p8 c8 w8 hacc8 hgrow hat8
  have hk8 : All w6 w8 := Kept.grown (by repeat (first | exact Kept.refl _ _ | refine Kept.then_drew ?_ | refine Kept.then_drewN ?_ _ | refine Kept.then_alloc ?_ _)) hgrow (fun k hk => by simp [Value.ownBlock] at hk)
  obtain ⟨g, cap8, cur8, e8, hg1, hg2, hg3⟩ := hacc8.one
  injection e8 with e8 e9 e10
  subst e8
  subst e10
  have hp8 := hk8.heap HP6.out trivial
  have hr8 := hk8.heap HR6.out trivial
  have q1 := cell_at (i := 1) hp8 (cur_at H3.out (j := 1) rfl)
  have y1 : w8.frozen? ⟨pb, 1, none⟩ = false := frozen_at hp8
  have h9 := heap_setCell_at w8 pb 1 (.slice (some ⟨g, 0, none⟩) 1 c8) _ _ _ hp8
  have hset : Kept (fun b => b ≠ pb) w8 (w8.setCell ⟨pb, 1, none⟩ (.slice (some ⟨g, 0, none⟩) 1 c8)) := Kept.setCell _ _ _ (fun h => h rfl)
  have hpl : pb < w6.heap.size := lt_of_cell e1
  have hc9 : ∀ (j : Nat) (u : Value), j ≠ 1 → ([.string ⟨#[97, 110, 110]⟩, .slice none 0 0, .slice none 0 0, .slice none 0 0, .slice none 0 0] : List Value)[j]? = some u → (w8.setCell ⟨pb, 1, none⟩ (.slice (some ⟨g, 0, none⟩) 1 c8)).cell? ⟨pb, j, none⟩ = some u := fun j u hj hu => by
    rw [World.cell?_setCell_other _ _ _ _ (by intro e; injection e with _ e; exact hj e.symm)]
    exact cell_at hp8 (cur_at H3.out hu)
  have hnl : 1 ≤ c8 := by
    obtain ⟨_, _, e, h⟩ := hacc8.form
    cases e; exact h
  have HF := Lib.hid (show ReadB rb w0 (w8.setCell ⟨pb, 1, none⟩ (.slice (some ⟨g, 0, none⟩) 1 c8)) from ⟨pb, cap, g, c8, hset.heap hr8 (Ne.symm HPR.out), hc9 0 _ (by decide) rfl, World.cell?_setCell_same' _ _ _ (by rw [q1]; rfl), hc9 2 _ (by decide) rfl, hc9 3 _ (by decide) rfl, hc9 4 _ (by decide) rfl,
    hset.cell (cell_at (i := 0) hg2 (cur_at hg3 (j := 0) rfl)) (by dsimp only; omega), hset.cell (cell_at (i := 1) hg2 (cur_at hg3 (j := 1) rfl)) (by dsimp only; omega), hnl, ((H5.out.trans HK6.out).trans hk8.all).trans2 hset (fun i hi _ => by have := H4.out; omega)⟩)
  clear hacc8 hgrow hat8 hk8 hg1 hg2 hg3 hp8 hr8 h9 hset hc9 hnl e9 e1 z1
  go_wp2_with fail
  go_ret
  exact ⟨rfl, HF.out⟩

theorem ended_txt : endedOf ⟨#[112, 101, 114, 115, 111, 110, 32, 97, 110, 110, 10, 110, 97, 109, 101, 32, 48, 32, 65, 110, 110, 32, 76, 101, 101, 10]⟩ = true := by unfold endedOf; rw [rows_txt]; decide
theorem lines_txt : (linesOf ⟨#[112, 101, 114, 115, 111, 110, 32, 97, 110, 110, 10, 110, 97, 109, 101, 32, 48, 32, 65, 110, 110, 32, 76, 101, 101, 10]⟩).length = 2 := by unfold linesOf; rw [ended_txt, rows_txt]; rfl
/-- The world that lies behind the reader's second line. -/
theorem ReadB.people {rb : Nat} {w0 w : World} (h : ReadB rb w0 w) : ∃ pb cap, w.heap[rb]? = some (.cells #[.slice none 0 0, .slice (some ⟨pb, 0, none⟩) 1 cap, .slice none 0 0, .slice none 0 0, .int .i64 2] 190) ∧ Sl RPer 5 (fun _ => True) w (some ⟨pb, 0, none⟩) 1 [perK] ∧ But rb w0 w := by
  obtain ⟨pb, cap, nb, nc, h1, h2, h3, h4, h5, h6, h7, h8, h9, h10⟩ := h
  refine ⟨pb, cap, h1, ⟨rfl, fun _ => ⟨pb, 0, rfl, trivial, fun i hi => ?_⟩⟩, h10⟩
  obtain rfl : i = 0 := by simpa using hi
  refine ⟨[.string ⟨#[97, 110, 110]⟩, .slice (some ⟨nb, 0, none⟩) 1 nc, .slice none 0 0, .slice none 0 0, .slice none 0 0], rfl, fun j hj => ?_, some ⟨nb, 0, none⟩, nc, none, 0, none, 0, none, 0, rfl, (show PerSmall perK from ⟨by decide, by decide, by decide, by decide, by decide⟩), h9, ⟨rfl, fun _ => ⟨nb, 0, rfl, trivial, fun i hi => ?_⟩⟩, Nat.le_refl _, Sl.nil _ _ _ _ _, Nat.le_refl _, Sl.nil _ _ _ _ _, Nat.le_refl _, Sl.nil _ _ _ _ _⟩
  · have h3 : j = 0 ∨ j = 1 ∨ j = 2 ∨ j = 3 ∨ j = 4 := by simp at hj; omega
    rcases h3 with rfl | rfl | rfl | rfl | rfl
    · exact h2
    · assumption
    · exact h4
    · exact h5
    · exact h6
  · obtain rfl : i = 0 := by have : i < 1 := hi; omega
    refine ⟨[.string ⟨#[65, 110, 110, 32, 76, 101, 101]⟩, .int .i64 0], rfl, fun j hj => ?_, ⟨rfl, (show NamSmall ⟨⟨#[65, 110, 110, 32, 76, 101, 101]⟩, 0⟩ from ⟨by decide, by decide, by decide⟩)⟩⟩
    have h3 : j = 0 ∨ j = 1 := by simp at hj; omega
    rcases h3 with rfl | rfl
    · exact h7
    · exact h8
end Go.Proofs.YtgobnlgmbplggaaGreatDoor

/- known: Read at the known text. -/
namespace Go.Proofs.YtgobnlgmbplggaaGreatDoor
open Go.RowKit

theorem ReadA.more {rb : Nat} {w0 w1 w : World} (h : ReadA rb w1 w) (k : But rb w0 w1) : ReadA rb w0 w := by
  obtain ⟨pb, cap, cur, h1, h2, h3, h4, h5⟩ := h
  exact ⟨pb, cap, cur, h1, h2, h3, Nat.le_trans k.size h4, k.trans h5⟩
/-- How far the reader is. -/
def ReadK (rb : Nat) (w0 w : World) : Nat → Prop
  | 0 => w.heap[rb]? = some (.cells #[.slice none 0 0, .slice none 0 0, .slice none 0 0, .slice none 0 0, .int .i64 0] 190) ∧ But rb w0 w
  | 1 => ReadA rb w0 w
  | _ => ReadB rb w0 w
set_option maxRecDepth 100000 in
set_option maxHeartbeats 6400000 in
theorem readK_any (w : World) (hg : Glob w) (h7 : 7 < w.heap.size) :
    Calls Tryz.prog 73 #[.string ⟨#[112, 101, 114, 115, 111, 110, 32, 97, 110, 110, 10, 110, 97, 109, 101, 32, 48, 32, 65, 110, 110, 32, 76, 101, 101, 10]⟩] w fun e w' => (∃ pb cap, e = .returned (.tuple #[.agg #[.slice none 0 0, .slice (some ⟨pb, 0, none⟩) 1 cap, .slice none 0 0, .slice none 0 0], .int .i64 0, .int .i64 0])) ∧ All w w' := by
  have hk1 : All w (w.alloc (.cells #[.slice none 0 0, .slice none 0 0, .slice none 0 0, .slice none 0 0] 31)) := Kept.alloc _ _ _
  have hb1 := heap_at w (.cells #[.slice none 0 0, .slice none 0 0, .slice none 0 0, .slice none 0 0] 31) _ rfl
  obtain ⟨w1, hw1⟩ : ∃ z, z = w.alloc (.cells #[.slice none 0 0, .slice none 0 0, .slice none 0 0, .slice none 0 0] 31) := ⟨_, rfl⟩
  obtain ⟨ob, hob⟩ : ∃ z, z = w.heap.size := ⟨_, rfl⟩
  rw [← hw1] at hk1 hb1
  rw [← hob] at hb1
  have hsz : w1.heap.size = ob + 1 := by rw [hw1, hob]; simp
  have hk2 : All w1 (w1.alloc (.cells #[.slice none 0 0, .slice none 0 0, .slice none 0 0, .slice none 0 0, .int .i64 0] 190)) := Kept.alloc _ _ _
  have hb2 := heap_at w1 (.cells #[.slice none 0 0, .slice none 0 0, .slice none 0 0, .slice none 0 0, .int .i64 0] 190) _ rfl
  rw [hsz] at hb2
  obtain ⟨w2, hw2⟩ : ∃ z, z = w1.alloc (.cells #[.slice none 0 0, .slice none 0 0, .slice none 0 0, .slice none 0 0, .int .i64 0] 190) := ⟨_, rfl⟩
  obtain ⟨rb, hrb⟩ : ∃ z, z = ob + 1 := ⟨_, rfl⟩
  rw [← hw2] at hk2 hb2
  rw [← hrb] at hb2
  have HW1 := Lib.hid hw1
  have HOB := Lib.hid hob
  have HW2 := Lib.hid hw2
  have HRB := Lib.hid hrb
  have HB1 := Lib.hid (hk2.heap hb1 trivial)
  have HB2 := Lib.hid hb2
  have HK2 := Lib.hid (hk1.trans hk2)
  have HG2 := Lib.hid (hg.keep (hk1.trans hk2))
  have HL := Lib.hid (linesT_any ⟨#[112, 101, 114, 115, 111, 110, 32, 97, 110, 110, 10, 110, 97, 109, 101, 32, 48, 32, 65, 110, 110, 32, 76, 101, 101, 10]⟩ 3 2 w2 (by decide) (by rw [rows_txt]; rfl) lines_txt (hg.keep (hk1.trans hk2)))
  rw [ended_txt, rows_txt] at HL
  have HR7 := Lib.hid (show 7 < rb by omega)
  clear hw1 hob hw2 hrb hb1 hb2 hk1 hk2 hg hsz h7
  go_enter Tryz.func73, Tryz.ntmps73
  go_upto_region 4 with fail
  simp only [← HOB.out, ← HW1.out, ← HRB.out, ← HW2.out]
  go_wp2_with fail
  refine HL.out.mono ?_
  rintro e w3 ⟨rfl, hw3⟩
  have hlb : w3.heap[w2.heap.size]? = some (.cells #[.string ⟨#[112, 101, 114, 115, 111, 110, 32, 97, 110, 110]⟩, .string ⟨#[110, 97, 109, 101, 32, 48, 32, 65, 110, 110, 32, 76, 101, 101]⟩, .string ⟨#[]⟩] 9) := by rw [hw3]; exact heap_at _ _ _ rfl
  have hk3 : All w2 w3 := by rw [hw3]; exact Kept.alloc _ _ _
  obtain ⟨lb, hlbn⟩ : ∃ z, z = w2.heap.size := ⟨_, rfl⟩
  rw [← hlbn] at hlb ⊢
  have HLB := Lib.hid hlb
  have HB3 := Lib.hid (hk3.heap HB1.out trivial)
  have HR3 := Lib.hid (hk3.heap HB2.out trivial)
  have HK3 := Lib.hid (HK2.out.trans hk3)
  have HG3 := Lib.hid (HG2.out.keep hk3)
  have HLR := Lib.hid (show lb ≠ rb by have := lt_of_cell (cell_at (i := 0) HB2.out rfl); dsimp only at this; omega)
  have HRO := Lib.hid (show ob ≠ rb by have := HRB.out; omega)
  have HRN := Lib.hid (show w.heap.size ≤ rb by have := HRB.out; have := HOB.out; omega)
  clear hw3 hlb hk3 hlbn HL HB1 HB2 HK2 HG2 HW1 HW2
  go_wp2_with fail
  go_loopw [24] (fun i wr => ∃ k : Nat, k ≤ 2 ∧ i = .int .i64 k ∧ ReadK rb w3 wr k) (fun i _ => 2 - (intOf i).toNat)
  case atStart => exact ⟨0, by decide, rfl, HR3.out, Kept.refl _ _⟩
  case round =>
    obtain ⟨k, hk, rfl, hst⟩ := hrel
    obtain ⟨wo, rfl⟩ : ∃ z : World, z = wr := ⟨_, rfl⟩
    have h3 : k = 0 ∨ k = 1 ∨ k = 2 := by omega
    rcases h3 with rfl | rfl | rfl
    · obtain ⟨h1, h2⟩ := hst
      have c0 := cell_at (i := 0) (h2.heap HLB.out HLR.out) rfl
      have HA := Lib.hid (lineA_any rb wo h1 (HG3.out.but h2 HR7.out))
      have HBU := Lib.hid h2
      clear h1 h2 hk
      go_wp2_with fail
      refine HA.out.mono ?_
      rintro e w4 ⟨rfl, h4⟩
      have HF := Lib.hid (h4.more HBU.out)
      clear h4 c0 HA
      go_wp2_with fail
      go_roundw
      case rel => exact ⟨1, by omega, by go_num, HF.out⟩
      case measure => simp [intOf]
    · have h2 : But rb w3 wo := by obtain ⟨_, _, _, _, _, _, _, h⟩ := hst; exact h
      have c0 := cell_at (i := 1) (h2.heap HLB.out HLR.out) rfl
      have HA := Lib.hid (lineB_any rb w3 wo hst (HG3.out.but h2 HR7.out))
      clear h2 hk hst
      go_wp2_with fail
      refine HA.out.mono ?_
      rintro e w4 ⟨rfl, h4⟩
      have HF := Lib.hid h4
      clear h4 c0 HA
      go_wp2_with fail
      go_roundw
      case rel => exact ⟨2, by omega, by go_num, HF.out⟩
      case measure => simp [intOf]
    · obtain ⟨pb, cap, h1, h2, h3⟩ := (show ReadB rb w3 wo from hst).people
      have HC := Lib.hid (checkWorld_any none 0 0 (some ⟨pb, 0, none⟩) 1 cap none 0 0 none 0 0 ⟨[], [perK], [], []⟩ wo (Sl.nil _ _ _ _ _) (by decide) h2 (by decide) (Sl.nil _ _ _ _ _) (by decide) (Sl.nil _ _ _ _ _) (by decide) (HG3.out.but h3 HR7.out))
      rw [known_ok] at HC
      have HR4 := Lib.hid h1
      have HBU := Lib.hid h3
      have e0 := cell_at (i := 0) h1 rfl
      have e1 := cell_at (i := 1) h1 rfl
      have e2 := cell_at (i := 2) h1 rfl
      have e3 := cell_at (i := 3) h1 rfl
      clear h1 h2 h3 hk hst
      go_wp2_with fail
      refine HC.out.mono ?_
      rintro e w5 ⟨rfl, hw5⟩
      have hr5 := hw5.heap HR4.out trivial
      have hb5 := hw5.heap (HBU.out.heap HB3.out HRO.out) trivial
      have e0 := cell_at (i := 0) hr5 rfl
      have e1 := cell_at (i := 1) hr5 rfl
      have e2 := cell_at (i := 2) hr5 rfl
      have e3 := cell_at (i := 3) hr5 rfl
      have d0 := cell_at (i := 0) hb5 rfl
      have d1 := cell_at (i := 1) hb5 rfl
      have d2 := cell_at (i := 2) hb5 rfl
      have d3 := cell_at (i := 3) hb5 rfl
      have z0 : w5.frozen? ⟨ob, 0, none⟩ = false := frozen_at hb5
      have z1 : w5.frozen? ⟨ob, 1, none⟩ = false := frozen_at hb5
      have z2 : w5.frozen? ⟨ob, 2, none⟩ = false := frozen_at hb5
      have z3 : w5.frozen? ⟨ob, 3, none⟩ = false := frozen_at hb5
      have HB5 := Lib.hid hb5
      have HK5 := Lib.hid (show But rb w3 w5 from HBU.out.trans hw5.all)
      have hall : All w w5 := HK3.out.trans2 HK5.out (fun i hi _ => by have := HRN.out; omega)
      have j0 := heap_setCell_at w5 ob 0 (.slice none 0 0) _ _ _ hb5
      have j1 := heap_setCell_at _ ob 1 (.slice (some ⟨pb, 0, none⟩) 1 cap) _ _ _ j0
      have j2 := heap_setCell_at _ ob 2 (.slice none 0 0) _ _ _ j1
      have j3 := heap_setCell_at _ ob 3 (.slice none 0 0) _ _ _ j2
      have q0 := cell_at (i := 0) (v := .slice none 0 0) j3 (by simp)
      have q1 := cell_at (i := 1) (v := .slice (some ⟨pb, 0, none⟩) 1 cap) j3 (by simp)
      have q2 := cell_at (i := 2) (v := .slice none 0 0) j3 (by simp)
      have q3 := cell_at (i := 3) (v := .slice none 0 0) j3 (by simp)
      have hle : w.heap.size ≤ ob := by have := HOB.out; omega
      have HALL := Lib.hid ((((hall.then_setNew ⟨ob, 0, none⟩ (.slice none 0 0) hle).then_setNew ⟨ob, 1, none⟩ (.slice (some ⟨pb, 0, none⟩) 1 cap) hle).then_setNew ⟨ob, 2, none⟩ (.slice none 0 0) hle).then_setNew ⟨ob, 3, none⟩ (.slice none 0 0) hle)
      clear hr5 hb5 hw5 HC hall j0 j1 j2 j3 hle
      go_wp2_with fail
      refine bodyPost_ret (v := .tuple #[.agg #[.slice none 0 0, .slice (some ⟨pb, 0, none⟩) 1 cap, .slice none 0 0, .slice none 0 0], .int .i64 0, .int .i64 0]) ?_ rfl ⟨⟨_, _, rfl⟩, HALL.out⟩
      simp [results, Tryz.results73, go_sem, q0, q1, q2, q3]
set_option maxHeartbeats 800000 in
theorem known_any (w : World) (hg : Glob w) (h7 : 7 < w.heap.size) : Calls Tryz.prog 19 #[] w fun e w' => e = .returned (.bool true) ∧ All w w' := by
  have HR := Lib.hid (readK_any w hg h7)
  clear hg h7
  go_enter Tryz.func19, Tryz.ntmps19
  go_wp2_with fail
  refine HR.out.mono ?_
  rintro e w1 ⟨⟨pb, cap, rfl⟩, hw1⟩
  have HK := Lib.hid (hw1.then_alloc (.cells #[.slice none 0 0, .slice (some ⟨pb, 0, none⟩) 1 cap, .slice none 0 0, .slice none 0 0] 31))
  clear hw1 HR
  go_wp2_with fail
  go_ret
  exact ⟨rfl, HK.out⟩
end Go.Proofs.YtgobnlgmbplggaaGreatDoor
