/- Order of the stream. -/
import Derived.Test.YtllkemadaemjeaaGreatDoorZc
namespace Go.Proofs.YtllkemadaemjeaaGreatDoor
open Go.RowKit

theorem set2 {zs : List Int} {P : Int → Prop} (h : ∀ z ∈ zs, P z) {a b : Int} {i j : Nat} (ha : P a) (hb : P b) : ∀ z ∈ (zs.set i a).set j b, P z := by
  intro z hz
  rcases List.mem_or_eq_of_mem_set hz with h1 | h1
  · rcases List.mem_or_eq_of_mem_set h1 with h2 | h2
    · exact h z h2
    · exact h2 ▸ ha
  · exact h1 ▸ hb
/-- a list of numbers below n -/
def Idx (n : Nat) (zs : List Int) : Prop := zs.length = n ∧ ∀ z ∈ zs, 0 ≤ z ∧ z < n
def IsOrder (σ : St) (n : Nat) (B : Nat) (v : Value) (w : World) : Prop := ∃ zs, Acc RInt 1 3 (fun k => k ≠ σ.b) B w v zs ∧ Idx n zs

set_option maxHeartbeats 800000 in
theorem order_any (σ : St) (n : Nat) (m : Nat) (w : World) (hs : Str σ w n) (hn : n ≤ 4611686018427380000) (hm : m ≤ 1000) :
    Calls Tryz.prog 9 #[.pointer (some ⟨σ.b, 0, none⟩), .int .i64 m] w (StPost σ n m w (IsOrder σ m w.heap.size)) := by
  have hlt := hs.lt
  go_enter Tryz.func9, Tryz.ntmps9
  go_wp2
  go_loopw [5, 10] (fun v i wr => ∃ (k : Nat) (zs : List Int), k ≤ m ∧ i = .int .i64 k ∧ Acc RInt 1 3 (fun k => k ≠ σ.b) w.heap.size wr v zs ∧ zs.length = k ∧ (∀ z ∈ zs, 0 ≤ z ∧ z < m) ∧ All w wr) (fun _ i _ => m - (intOf i).toNat)
  case atStart => exact ⟨0, [], Nat.zero_le _, rfl, Acc.nil _ _ _ _ _ _, rfl, by simp, Kept.refl _ _⟩
  case round =>
    obtain ⟨k, zs, hk, rfl, hacc, hlen, hall, hkept⟩ := hrel
    by_cases hlt2 : k < m
    · go_wp2_with (at_builtin; refine wp_append1 RInt.ok _ rfl _ _ 22 rfl w.heap.size 3 (.int .i64 0) 1 8 Tryz.underlying22 (by kernel_rfl) rfl (by decide) (fun k => k ≠ σ.b) _ zs rfl (hacc.keepAll RInt.ok (Kept.alloc _ _ _)) ⟨_, 0, none⟩ 1 [.int .i64 k] rfl rfl ?c1 ?c2 k rfl ?c3 (by decide) ?c5 ?_)
      case c1 => exact cell_one_new _ _ _
      case c2 => simp [Value.oneCell']
      case c3 => omega
      case c5 => have := hkept.size; simp; omega
      intro p' c' w' hacc' hg hat
      have hlen' : (zs ++ [(k : Int)]).length = k + 1 := by simp; omega
      have hall' : ∀ z ∈ zs ++ [(k : Int)], 0 ≤ z ∧ z < m := by
        intro z hz
        rcases List.mem_append.1 hz with h | h
        · exact hall z h
        · simp at h; omega
      have hkept' : All w w' := (hkept.then_alloc _).grown hg (fun k' hk' => Or.inl (hacc.lt k' hk').1)
      clear hacc hg hat hall hkept hlen
      go_wp2
      go_roundw
      case rel => exact ⟨k + 1, _, by omega, by go_num, hacc', hlen', hall', hkept'⟩
      case measure => simp [intOf]; omega
    · have hkm : k = m := by omega
      subst hkm
      have hsr : Str σ wr n := hs.keep hkept
      have hbr : But σ.b w wr := Kept.all hkept
      have hd : decide ((k : Int) < (k : Int)) = false := by simp
      clear hs hkept
      go_wp2_with fail
      go_loopw [7] (fun i wq => ∃ (j : Int) (zs : List Int) (n' : Nat), -1 ≤ j ∧ j < k ∧ i = .int .i64 j ∧ Acc RInt 1 3 (fun k => k ≠ σ.b) w.heap.size wq u5 zs ∧ zs.length = k ∧ (∀ z ∈ zs, 0 ≤ z ∧ z < k) ∧ Str σ wq n' ∧ n ≤ n' ∧ (n' : Int) + j + 1 ≤ n + k ∧ But σ.b w wq) (fun i _ => (intOf i + 1).toNat)
      case atStart => exact ⟨_, zs, n, by omega, by omega, rfl, hacc, hlen, hall, hsr, by omega, by omega, hbr⟩
      case round =>
        clear hacc hlen hall hsr hbr zs
        obtain ⟨j, zs, n', hj1, hj2, rfl, hacc, hlen, hall, hsr, hn1, hn2, hbr⟩ := hrel
        by_cases hj : 0 < j
        · go_wp2_with fail
          refine (next_any σ n' _ _ hsr (by omega) (by omega) (by omega)).mono ?_
          rintro e w2 ⟨v, m2, rfl, ⟨r, rfl, hr1, hr2⟩, hm3, hm4, hs2, hb2⟩
          obtain ⟨i, rfl⟩ := Int.eq_ofNat_of_zero_le hr1
          obtain ⟨jn, rfl⟩ := Int.eq_ofNat_of_zero_le (show 0 ≤ j by omega)
          have hacc2 := hacc.keep RInt.ok hb2 (fun _ h => h) (fun k' hk' => by have := (hacc.lt k' hk').1; omega)
          have hbr2 : But σ.b w w2 := hbr.trans hb2
          clear hacc hbr hb2 hsr
          obtain ⟨g, cap, hv, hg, hcell, hfz⟩ := hacc2.ints (by omega)
          rw [hlen] at hv
          have hci := hcell i (by omega)
          have hcj := hcell jn (by omega)
          have hfi := hfz i
          have hfj := hfz jn
          have hmi : zs.getD i 0 ∈ zs := by
            rw [List.getD_eq_getElem?_getD, List.getElem?_eq_getElem (by omega)]; exact List.getElem_mem _
          have hmj : zs.getD jn 0 ∈ zs := by
            rw [List.getD_eq_getElem?_getD, List.getElem?_eq_getElem (by omega)]; exact List.getElem_mem _
          generalize zs.getD i 0 = zi at *
          generalize zs.getD jn 0 = zj at *
          clear hcell hfz
          subst hv
          by_cases hij : i = jn
          · subst hij
            go_wp2_with fail
            go_region
            go_wp2_with fail
            refine ⟨⟨_, (zs.set i zi).set i zi, m2, by omega, by omega, rfl, ((hacc2.setInt i zi).setInt i zi).keepAll RInt.ok (Kept.drew _ _), by simp; omega, set2 hall (hall zi hmi) (hall zi hmi), ((hs2.set _ _ (by dsimp only; omega)).set _ _ (by dsimp only; omega)).keep (Kept.drew _ _), by omega, by omega, ((hbr2.then_setNew _ _ hg).then_setNew _ _ hg).then_drew⟩, by simp [intOf]⟩
          · go_wp2_with fail
            go_region
            go_wp2_with fail
            refine ⟨⟨_, (zs.set jn zi).set i zj, m2, by omega, by omega, rfl, ((hacc2.setInt jn zi).setInt i zj).keepAll RInt.ok (Kept.drew _ _), by simp; omega, set2 hall (hall zi hmi) (hall zj hmj), ((hs2.set _ _ (by dsimp only; omega)).set _ _ (by dsimp only; omega)).keep (Kept.drew _ _), by omega, by omega, ((hbr2.then_setNew _ _ hg).then_setNew _ _ hg).then_drew⟩, by simp [intOf]⟩
        · have hd2 : decide (0 < j) = false := by simpa using hj
          go_wp2_with fail
          go_ret
          exact ⟨_, n', rfl, ⟨zs, hacc, hlen, hall⟩, by omega, by omega, hsr, hbr⟩
end Go.Proofs.YtllkemadaemjeaaGreatDoor
