/- Ids10. -/
import Derived.Test.YtllkemadaemjeaaGreatDoorZb
import Derived.Test.YtllkemadaemjeaaGreatDoorZc
import Derived.Test.YtllkemadaemjeaaGreatDoorZd
namespace Go.Proofs.YtllkemadaemjeaaGreatDoor
open Go.RowKit

/-- Names of papers. -/
def IsIds (B : Nat) (v : Value) (w : World) : Prop := ∃ ss : List ByteArray, ss.length ≤ 7 ∧ Acc RStr 1 9 (fun _ => False) B w v ss
set_option maxRecDepth 100000 in
set_option maxHeartbeats 3200000 in
theorem ids10_any (σ : St) (n : Nat) (w : World) (hs : Str σ w n) (hn : n ≤ 4611686018427380000) :
    Calls Tryz.prog 7 #[.pointer (some ⟨σ.b, 0, none⟩)] w (StPost σ n 20 w (IsIds w.heap.size)) := by
  have hlt0 := hs.lt
  have hk1 : But σ.b w (w.alloc (.cells #[.string ⟨#[112, 97]⟩, .string ⟨#[112, 98]⟩, .string ⟨#[112, 99]⟩, .string ⟨#[112, 100]⟩, .string ⟨#[112, 101]⟩, .string ⟨#[112, 102]⟩] 9)) := Kept.alloc _ _ _
  have hs1 := hs.keep (Kept.alloc (fun _ => True) w (.cells #[.string ⟨#[112, 97]⟩, .string ⟨#[112, 98]⟩, .string ⟨#[112, 99]⟩, .string ⟨#[112, 100]⟩, .string ⟨#[112, 101]⟩, .string ⟨#[112, 102]⟩] 9))
  have hlit := Sl.lit_strs (F := fun k => k ≠ σ.b ∧ k < w.heap.size + 1) [⟨#[112, 97]⟩, ⟨#[112, 98]⟩, ⟨#[112, 99]⟩, ⟨#[112, 100]⟩, ⟨#[112, 101]⟩, ⟨#[112, 102]⟩] (heap_at w (.cells #[.string ⟨#[112, 97]⟩, .string ⟨#[112, 98]⟩, .string ⟨#[112, 99]⟩, .string ⟨#[112, 100]⟩, .string ⟨#[112, 101]⟩, .string ⟨#[112, 102]⟩] 9) _ rfl) rfl ⟨by omega, by omega⟩
  have hsz : w.heap.size + 1 = (w.alloc (.cells #[.string ⟨#[112, 97]⟩, .string ⟨#[112, 98]⟩, .string ⟨#[112, 99]⟩, .string ⟨#[112, 100]⟩, .string ⟨#[112, 101]⟩, .string ⟨#[112, 102]⟩] 9)).heap.size := by simp
  have Hlit := Lib.hid hlit
  have hB1 : w.heap.size + 1 ≤ (w.alloc (.cells #[.string ⟨#[112, 97]⟩, .string ⟨#[112, 98]⟩, .string ⟨#[112, 99]⟩, .string ⟨#[112, 100]⟩, .string ⟨#[112, 101]⟩, .string ⟨#[112, 102]⟩] 9)).heap.size := by simp
  clear hs hlit hsz
  go_enter Tryz.func7, Tryz.ntmps7
  go_wp2_with fail
  generalize w.alloc (.cells #[.string ⟨#[112, 97]⟩, .string ⟨#[112, 98]⟩, .string ⟨#[112, 99]⟩, .string ⟨#[112, 100]⟩, .string ⟨#[112, 101]⟩, .string ⟨#[112, 102]⟩] 9) = w1 at *
  go_loopw [3, 5, 8] (fun v _ i wr => ∃ (k : Nat) (ss : List ByteArray) (n' : Nat), k ≤ 6 ∧ i = .int .i64 k ∧ Acc RStr 1 9 (fun _ => False) (w.heap.size + 1) wr v ss ∧ ss.length ≤ k ∧ Str σ wr n' ∧ n ≤ n' ∧ n' ≤ n + k ∧ Kept (fun j => j ≠ σ.b ∧ j < w.heap.size + 1) w1 wr) (fun _ _ i _ => 6 - (intOf i).toNat)
  case atStart => exact ⟨0, [], n, by omega, rfl, Acc.nil _ _ _ _ _ _, by simp, hs1, by omega, by omega, Kept.refl _ _⟩
  case round =>
    obtain ⟨k, ss, n', hk, rfl, hacc, hl, hs2, hn1, hn2, hkp⟩ := hrel
    obtain ⟨wo, rfl⟩ : ∃ wo : World, wo = wr := ⟨_, rfl⟩
    have hkw : But σ.b w wo := ⟨(hkp.os).trans hk1.os, hkp.tape.trans hk1.tape, hkp.output.trans hk1.output, Nat.le_trans hk1.size hkp.size, fun j hj hf => (hkp.block j (by have := hk1.size; omega) ⟨hf, by omega⟩).trans (hk1.block j hj hf)⟩
    have hszo := hkp.size
    by_cases hlt : k < 6
    · obtain ⟨b, off, y, ha, -, hck, hyz, -, -, -⟩ := (Hlit.out.keep RStr.ok hkp).atStr (k := k) (by simpa using hlt)
      simp only [Option.some.injEq, Addr.mk.injEq] at ha
      obtain ⟨rfl, rfl, -⟩ := ha
      simp only [Nat.zero_add] at hck
      go_wp2_with fail
      refine (flip_any σ n' 3 _ hs2 (by omega) (by omega) (by omega)).mono ?_
      rintro e w3 ⟨v, n3, rfl, ⟨r, rfl⟩, hn3, hn4, hs3, hb3⟩
      have hacc3 := hacc.keep RStr.ok hb3 (fun _ h => h.elim) (fun k hk => by have := (hacc.lt k hk).1; omega)
      have hk3 := hkp.trans (hb3.mono (fun j hj => hj.1))
      have hsz3 := hk3.size
      obtain ⟨pa, pc, rfl, -⟩ := hacc3.form
      clear hs2 hacc hkp hb3 hkw
      cases r with
      | true =>
        go_wp2_with fail
        go_roundw
        case rel => exact ⟨k + 1, ss, n3, by omega, by go_num, hacc3, by omega, hs3, by omega, by omega, hk3⟩
        case measure => simp [intOf]; omega
      | false =>
        have hlb : ss.length + 1 ≤ 1000000000 := by omega
        go_wp2_with (at_builtin; refine wp_append1 RStr.ok _ rfl _ _ 26 rfl (w.heap.size + 1) 9 (.string ⟨#[]⟩) 1 16 Tryz.underlying26 (by kernel_rfl) rfl (by decide) (fun _ => False) _ ss rfl (hacc3.keepAll RStr.ok (Kept.alloc _ _ _)) ⟨_, 0, none⟩ 1 [.string y] rfl rfl (World.news_of_block (cs := #[.string y]) (heap_alloc_new w3 _)) (by simp [Value.oneCell']) y ⟨rfl, hyz⟩ hlb (by decide) (by simp; omega) ?_)
        intro p' c' w9 hacc9 hg9 _
        have hkr := Lib.hid (fun k (hk : (Value.slice pa ss.length pc).ownBlock = some k) => (hacc3.lt k hk).1)
        have hw9 : Kept (fun j => j ≠ σ.b ∧ j < w.heap.size + 1) w1 w9 := (hk3.then_alloc _).grown hg9 (fun k hk => Or.inr (fun h => by have := hkr.out k hk; omega))
        have hs9 := hs3.kept (F := fun j => j ≤ σ.b) ((Kept.alloc _ _ _).grown hg9 (fun k hk => Or.inr (fun h => by have := hkr.out k hk; omega))) (fun _ h => h)
        clear hacc3 hg9 hk3 hs3 hck
        go_wp2_with fail
        go_roundw
        case rel => exact ⟨k + 1, _, n3, by omega, by go_num, hacc9, by simp; omega, hs9, by omega, by omega, hw9⟩
        case measure => simp [intOf]; omega
    · have hd : decide ((k : Int) < 6) = false := by simp; omega
      go_wp2_with fail
      refine (flip_any σ n' 15 _ hs2 (by omega) (by omega) (by omega)).mono ?_
      rintro e w3 ⟨v, n3, rfl, ⟨r, rfl⟩, hn3, hn4, hs3, hb3⟩
      have hacc3 := hacc.keep RStr.ok hb3 (fun _ h => h.elim) (fun k hk => by have := (hacc.lt k hk).1; omega)
      have hk3 := hkw.trans hb3
      have hsz3 := hb3.size
      obtain ⟨pa, pc, rfl, -⟩ := hacc3.form
      clear hs2 hacc hkp hb3 hkw
      cases r with
      | false =>
        go_wp2_with fail
        go_ret
        exact ⟨_, n3, rfl, ⟨ss, by omega, hacc3.base (by omega)⟩, by omega, by omega, hs3, hk3⟩
      | true =>
        have hlt3 := hs3.lt
        go_wp2_with fail
        refine (some10_any σ n3 _ 4 4 [⟨#[]⟩, ⟨#[65]⟩, ⟨#[112, 97]⟩, ⟨#[112, 122]⟩] _ (hs3.keep (Kept.alloc _ _ _)) (by omega) (Sl.lit_strs _ (heap_at w3 _ _ rfl) rfl (by omega)) (by omega) (by omega)).mono ?_
        rintro e w4 ⟨v, n4, rfl, ⟨y, rfl, -, hyz⟩, hn5, hn6, hs4, hb4⟩
        have hacc4 := (hacc3.keepAll RStr.ok (Kept.alloc _ _ (.cells #[.string ⟨#[]⟩, .string ⟨#[65]⟩, .string ⟨#[112, 97]⟩, .string ⟨#[112, 122]⟩] 9))).keep RStr.ok hb4 (fun _ h => h.elim) (fun k hk => by have := (hacc3.lt k hk).1; omega)
        have hk4 := (hk3.then_alloc _).trans hb4
        have hsz4 := hb4.size
        have hsz5 : w3.heap.size ≤ w4.heap.size := by simp at hsz4; omega
        have hlb : ss.length + 1 ≤ 1000000000 := by omega
        clear hs3 hacc3 hb4 hk3 hsz4
        go_wp2_with (at_builtin; refine wp_append1 RStr.ok _ rfl _ _ 26 rfl (w.heap.size + 1) 9 (.string ⟨#[]⟩) 1 16 Tryz.underlying26 (by kernel_rfl) rfl (by decide) (fun _ => False) _ ss rfl (hacc4.keepAll RStr.ok (Kept.alloc _ _ _)) ⟨_, 0, none⟩ 1 [.string y] rfl rfl (World.news_of_block (cs := #[.string y]) (heap_alloc_new w4 _)) (by simp [Value.oneCell']) y ⟨rfl, hyz⟩ hlb (by decide) (by simp; omega) ?_)
        intro p' c' w9 hacc9 hg9 _
        have hkr := Lib.hid (fun k (hk : (Value.slice pa ss.length pc).ownBlock = some k) => (hacc4.lt k hk).1)
        have hw9 : But σ.b w w9 := (hk4.then_alloc _).grown hg9 (fun k hk => Or.inl (by have := hkr.out k hk; omega))
        have hs9 := hs4.kept (F := fun j => j ≤ σ.b) ((Kept.alloc _ _ _).grown hg9 (fun k hk => Or.inr (fun h => by have := hkr.out k hk; omega))) (fun _ h => h)
        clear hacc4 hg9 hk4 hs4
        go_wp2_with fail
        go_ret
        exact ⟨_, n4, rfl, ⟨_, by simp; omega, hacc9.base (by omega)⟩, by omega, by omega, hs9, hw9⟩
end Go.Proofs.YtllkemadaemjeaaGreatDoor
