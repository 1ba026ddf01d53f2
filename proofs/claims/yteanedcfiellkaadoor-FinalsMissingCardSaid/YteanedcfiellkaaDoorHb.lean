/- Decisions10 makes decisions. -/
import Derived.Test.YteanedcfiellkaaDoorHa
import Derived.Test.YteanedcfiellkaaDoorZc
namespace Go.Proofs.YteanedcfiellkaaDoor
open Go.RowKit

def IsDecs (σ : St) (v : Value) (w : World) : Prop := ∃ a cap ds, v = .slice a ds.length cap ∧ ds.length ≤ 10 ∧ ds.length ≤ cap ∧ Sl RDec 3 (fun k => k ≠ σ.b) w a ds.length ds
theorem IsDecs.of {σ : St} {B : Nat} {a : Option Addr} {n cap : Nat} {w : World} {ds : List Dec3} (h : Acc RDec 3 150 (fun _ => False) B w (.slice a n cap) ds) (hB : σ.b < B) (hl : ds.length ≤ 10) : IsDecs σ (.slice a n cap) w := by
  obtain ⟨a', c', hv, hc⟩ := h.form
  cases hv
  obtain ⟨a'', c'', hv', hsl⟩ := h.sl RDec.ok (by decide) (G := fun k => k ≠ σ.b) (fun _ h => h.elim) (fun k hk => by have := (h.lt k hk).1; omega)
  cases hv'
  exact ⟨_, _, ds, rfl, hl, hc, hsl⟩

set_option maxRecDepth 100000 in
set_option maxHeartbeats 3200000 in
theorem decisions_any (σ : St) (n : Nat) (w : World) (hs : Str σ w n) (hn : n ≤ 4611686018427100000) :
    Calls Tryd.prog 54 #[.pointer (some ⟨σ.b, 0, none⟩)] w (StPost σ n 1000 w (IsDecs σ)) := by
  have hlt := hs.lt
  have hs1 := hs.keep (Kept.alloc (fun _ => True) w (.cells #[.string ⟨#[112, 101]⟩, .string ⟨#[112, 97]⟩, .string ⟨#[112, 98]⟩, .string ⟨#[112, 99]⟩, .string ⟨#[112, 122]⟩] 9))
  have hlit : Sl RStr 1 (fun k => k ≠ σ.b) (w.alloc (.cells #[.string ⟨#[112, 101]⟩, .string ⟨#[112, 97]⟩, .string ⟨#[112, 98]⟩, .string ⟨#[112, 99]⟩, .string ⟨#[112, 122]⟩] 9)) (some ⟨w.heap.size, 0, none⟩) 5 [⟨#[112, 101]⟩, ⟨#[112, 97]⟩, ⟨#[112, 98]⟩, ⟨#[112, 99]⟩, ⟨#[112, 122]⟩] := Sl.lit_strs _ (heap_at _ _ _ rfl) rfl (by omega)
  have hk1 : But σ.b w (w.alloc (.cells #[.string ⟨#[112, 101]⟩, .string ⟨#[112, 97]⟩, .string ⟨#[112, 98]⟩, .string ⟨#[112, 99]⟩, .string ⟨#[112, 122]⟩] 9)) := Kept.alloc _ _ _
  have hszw := hk1.size
  clear hs
  go_enter Tryd.func54, Tryd.ntmps54
  go_wp2_with fail
  generalize w.alloc (.cells #[.string ⟨#[112, 101]⟩, .string ⟨#[112, 97]⟩, .string ⟨#[112, 98]⟩, .string ⟨#[112, 99]⟩, .string ⟨#[112, 122]⟩] 9) = w1 at *
  obtain ⟨lb, hlb⟩ : ∃ lb, lb = w.heap.size := ⟨_, rfl⟩
  rw [← hlb] at hlit ⊢
  clear hlb
  go_loopw [3, 8] (fun v i wr => ∃ (k : Nat) (ds : List Dec3) (n' : Nat), k ≤ 5 ∧ i = .int .i64 k ∧ Acc RDec 3 150 (fun _ => False) w1.heap.size wr v ds ∧ ds.length ≤ k ∧ Str σ wr n' ∧ n ≤ n' ∧ n' ≤ n + k * 3 ∧ But σ.b w1 wr) (fun _ i _ => 5 - (intOf i).toNat)
  case atStart => exact ⟨0, [], n, Nat.zero_le _, rfl, Acc.nil _ _ _ _ _ _, by simp, hs1, by omega, by omega, Kept.refl _ _⟩
  case round =>
    clear hs1
    obtain ⟨k, ds, n', hk, rfl, hacc, hlen, hsr, hn1, hn2, hbr⟩ := hrel
    obtain ⟨wo, rfl⟩ : ∃ wo : World, wo = wr := ⟨_, rfl⟩
    obtain ⟨ae, ce, hve, hce⟩ := hacc.form
    obtain ⟨dl, hdl⟩ : ∃ dl, dl = ds.length := ⟨_, rfl⟩
    rw [← hdl] at hve hce hlen
    have Hdl := Lib.hid hdl
    clear hdl
    subst hve
    have hsz := (hk1.trans hbr).size
    by_cases hlt2 : k < 5
    · obtain ⟨bl, ol, id, hal, -, cid, hidz, -, -, -⟩ := (hlit.keep RStr.ok hbr).atStr hlt2
      cases hal
      replace cid : wo.cell? ⟨lb, k, none⟩ = some (.string id) := by simpa using cid
      have hlbo := lt_of_cell cid
      dsimp only at hlbo
      go_wp2_with fail
      refine (flip_any σ n' _ _ hsr (by omega) (by omega) (by omega)).mono ?_
      rintro e w2 ⟨v, n2, rfl, ⟨r, rfl⟩, hn3, hn4, hs2, hb2⟩
      have hbr2 := hbr.trans hb2
      have hacc2 := hacc.keep RDec.ok hb2 (fun _ h => h.elim) (fun k hk => by have := (hacc.lt k hk).1; omega)
      clear hbr hacc hsr hb2
      cases r
      · go_wp2_with fail
        go_roundw
        case rel => exact ⟨k + 1, ds, n2, by omega, by go_num, hacc2, by have := Hdl.out; omega, hs2, by omega, by omega, hbr2⟩
        case measure => simp [intOf]; omega
      · go_wp2_with fail
        refine (flip_any σ n2 _ _ hs2 (by omega) (by omega) (by omega)).mono ?_
        rintro e w3 ⟨v, n3, rfl, ⟨yes, rfl⟩, hn5, hn6, hs3, hb3⟩
        have hbr3 := hbr2.trans hb3
        have hacc3 := hacc2.keep RDec.ok hb3 (fun _ h => h.elim) (fun k hk => by have := (hacc2.lt k hk).1; omega)
        clear hbr2 hacc2 hs2 hb3
        go_wp2_with fail
        refine (range_any σ n3 _ _ _ hs3 (by omega) (by omega) (by omega) (by omega)).mono ?_
        rintro e w4 ⟨v, n4, rfl, ⟨rank, rfl, hr1, hr2⟩, hn7, hn8, hs4, hb4⟩
        have hbr4 := hbr3.trans hb4
        have hacc4 := hacc3.keep RDec.ok hb4 (fun _ h => h.elim) (fun k hk => by have := (hacc3.lt k hk).1; omega)
        have hsz4 := hbr4.size
        clear hbr3 hacc3 hs3 hb4
        go_wp2_with (at_builtin; refine wp_append1 RDec.ok _ rfl _ _ 87 rfl w1.heap.size 150 (.agg #[.string ⟨#[]⟩, .bool false, .int .i64 0]) 3 32 Tryd.underlying87 (by kernel_rfl) rfl (by decide) (fun _ => False) _ ds rfl (hacc4.keepAll RDec.ok (Kept.alloc _ _ _)) ⟨_, 0, none⟩ 1 [.string id, .bool yes, .int .i64 rank] rfl rfl (World.news_of_block (cs := #[.string id, .bool yes, .int .i64 rank]) (heap_alloc_new w4 _)) (by simp [Value.oneCell']) ⟨id, yes, rank⟩ ⟨rfl, hidz⟩ (by have := Hdl.out; omega) (by decide) (by simp; omega) ?_)
        intro p' c' w9 hacc9 hg9 _
        have hbr9 : But σ.b w1 w9 := (hbr4.then_alloc _).grown hg9 (fun k hk => Or.inl (hacc4.lt k hk).1)
        have hs9 : Str σ w9 n4 := (hs4.keep (Kept.alloc _ _ _)).kept (Kept.grown (F := fun k => k ≤ σ.b) (Kept.refl _ _) hg9 (fun k hk => Or.inr (by have := (hacc4.lt k hk).1; omega))) (fun _ h => h)
        have Hln := Lib.hid (show (ds ++ [(⟨id, yes, rank⟩ : Dec3)]).length ≤ k + 1 by simp; have := Hdl.out; omega)
        clear hacc4 hg9 hbr4 hs4 hsz4 cid hlbo
        go_wp2_with fail
        go_roundw
        case rel => exact ⟨k + 1, _, n4, by omega, by go_num, hacc9, Hln.out, hs9, by omega, by omega, hbr9⟩
        case measure => simp [intOf]; omega
    · have hd : decide ((k : Int) < 5) = false := by simp; omega
      have hB : σ.b < w1.heap.size := by have := hk1.size; omega
      go_wp2_with fail
      refine (flip_any σ n' _ _ hsr (by omega) (by omega) (by omega)).mono ?_
      rintro e w2 ⟨v, n2, rfl, ⟨r, rfl⟩, hn3, hn4, hs2, hb2⟩
      have hbr2 := hbr.trans hb2
      have hacc2 := hacc.keep RDec.ok hb2 (fun _ h => h.elim) (fun k hk => by have := (hacc.lt k hk).1; omega)
      have hs2l := hs2.lt
      clear hbr hacc hsr hb2
      cases r
      · have hfin := Lib.hid (IsDecs.of (σ := σ) hacc2 hB (by have := Hdl.out; omega))
        clear hacc2
        go_wp2_with fail
        go_ret
        exact ⟨_, n2, rfl, hfin.out, by omega, by omega, hs2, hk1.trans hbr2⟩
      · go_wp2_with fail
        refine (some10_any σ n2 _ _ _ [⟨#[112, 97]⟩, ⟨#[65]⟩, ⟨#[]⟩] _ (hs2.keep (Kept.alloc _ _ _)) (by omega) (Sl.lit_strs _ (heap_at _ _ _ rfl) rfl (by omega)) (by simp) (by simp)).mono ?_
        rintro e w3 ⟨v, n3, rfl, ⟨s, rfl, -, hz⟩, hn5, hn6, hs3, hb3⟩
        have hbr3 := (hbr2.then_alloc _).trans hb3
        have hacc3 := (hacc2.keepAll RDec.ok (Kept.alloc _ _ _)).keep RDec.ok hb3 (fun _ h => h.elim) (fun k hk => by have := (hacc2.lt k hk).1; omega)
        have hsz3 := hbr3.size
        clear hbr2 hacc2 hs2 hb3
        go_wp2_with (at_builtin; refine wp_append1 RDec.ok _ rfl _ _ 87 rfl w1.heap.size 150 (.agg #[.string ⟨#[]⟩, .bool false, .int .i64 0]) 3 32 Tryd.underlying87 (by kernel_rfl) rfl (by decide) (fun _ => False) _ ds rfl (hacc3.keepAll RDec.ok (Kept.alloc _ _ _)) ⟨_, 0, none⟩ 1 [.string s, .bool false, .int .i64 0] rfl rfl (World.news_of_block (cs := #[.string s, .bool false, .int .i64 0]) (heap_alloc_new w3 _)) (by simp [Value.oneCell']) ⟨s, false, 0⟩ ⟨rfl, hz⟩ (by have := Hdl.out; omega) (by decide) (by simp; omega) ?_)
        intro p' c' w9 hacc9 hg9 _
        have hbr9 : But σ.b w1 w9 := (hbr3.then_alloc _).grown hg9 (fun k hk => Or.inl (hacc3.lt k hk).1)
        have hs9 : Str σ w9 n3 := (hs3.keep (Kept.alloc _ _ _)).kept (Kept.grown (F := fun k => k ≤ σ.b) (Kept.refl _ _) hg9 (fun k hk => Or.inr (by have := (hacc3.lt k hk).1; omega))) (fun _ h => h)
        have hfin := Lib.hid (IsDecs.of (σ := σ) hacc9 hB (by simp; have := Hdl.out; omega))
        clear hacc3 hg9 hbr3 hs3 hsz3 hacc9
        go_wp2_with fail
        go_ret
        exact ⟨_, n3, rfl, hfin.out, by omega, by omega, hs9, hk1.trans hbr9⟩
end Go.Proofs.YteanedcfiellkaaDoor
