/- BookName and Changed. -/
import Derived.Test.YtbpbhpmkganefaaDoorFk
import Derived.Test.YtbpbhpmkganefaaDoorZc
namespace Go.Proofs.YtbpbhpmkganefaaDoor
open Go.RowKit

def bookNames : List ByteArray := [⟨#[65, 110, 110, 32, 76, 101, 101]⟩, ⟨#[66, 111, 98, 32, 118, 97, 110, 32, 100, 101, 114, 32, 82, 97, 121]⟩, ⟨#[118, 97, 110, 32, 82, 97, 121]⟩, ⟨#[100, 101, 32, 108, 97, 32, 67, 114, 117, 122]⟩, ⟨#[74, 101, 97, 110, 45, 76, 117, 99, 32, 100, 101, 32, 108, 97, 32, 67, 114, 117, 122]⟩, ⟨#[80, 108, 97, 116, 111]⟩, ⟨#[97, 110, 110, 32, 108, 101, 101]⟩, ⟨#[67, 105, 100, 32, 79, 39, 78, 101, 105, 108]⟩, ⟨#[195, 137, 109, 105, 108, 101, 45, 195, 137, 108, 97, 110, 32, 90, 111, 108]⟩, ⟨#[65, 46, 32, 66, 45, 32, 77, 111, 101]⟩, ⟨#[108, 97]⟩, ⟨#[68, 101, 101, 32, 100, 97]⟩, ⟨#[65, 110, 110, 45]⟩, ⟨#[45, 65, 110, 110, 32, 76, 101, 101]⟩]
theorem bookNames_small : ∀ r ∈ bookNames, r.size ≤ 40 := by decide
set_option maxRecDepth 100000 in
set_option maxHeartbeats 1600000 in
theorem bookName_any (σ : St) (n : Nat) (w : World) (hs : Str σ w n) (hn : n ≤ 1000000) :
    Calls Tryd.prog 4 #[.pointer (some ⟨σ.b, 0, none⟩)] w (StPost σ n 1 w (IsStr fun r => r.size ≤ 40)) := by
  have hlt := hs.lt
  have hk : All w (w.alloc (.cells #[.string ⟨#[65, 110, 110, 32, 76, 101, 101]⟩, .string ⟨#[66, 111, 98, 32, 118, 97, 110, 32, 100, 101, 114, 32, 82, 97, 121]⟩, .string ⟨#[118, 97, 110, 32, 82, 97, 121]⟩, .string ⟨#[100, 101, 32, 108, 97, 32, 67, 114, 117, 122]⟩, .string ⟨#[74, 101, 97, 110, 45, 76, 117, 99, 32, 100, 101, 32, 108, 97, 32, 67, 114, 117, 122]⟩, .string ⟨#[80, 108, 97, 116, 111]⟩, .string ⟨#[97, 110, 110, 32, 108, 101, 101]⟩, .string ⟨#[67, 105, 100, 32, 79, 39, 78, 101, 105, 108]⟩, .string ⟨#[195, 137, 109, 105, 108, 101, 45, 195, 137, 108, 97, 110, 32, 90, 111, 108]⟩, .string ⟨#[65, 46, 32, 66, 45, 32, 77, 111, 101]⟩, .string ⟨#[108, 97]⟩, .string ⟨#[68, 101, 101, 32, 100, 97]⟩, .string ⟨#[65, 110, 110, 45]⟩, .string ⟨#[45, 65, 110, 110, 32, 76, 101, 101]⟩] 9)) := Kept.alloc _ _ _
  have hblk := heap_at w (.cells #[.string ⟨#[65, 110, 110, 32, 76, 101, 101]⟩, .string ⟨#[66, 111, 98, 32, 118, 97, 110, 32, 100, 101, 114, 32, 82, 97, 121]⟩, .string ⟨#[118, 97, 110, 32, 82, 97, 121]⟩, .string ⟨#[100, 101, 32, 108, 97, 32, 67, 114, 117, 122]⟩, .string ⟨#[74, 101, 97, 110, 45, 76, 117, 99, 32, 100, 101, 32, 108, 97, 32, 67, 114, 117, 122]⟩, .string ⟨#[80, 108, 97, 116, 111]⟩, .string ⟨#[97, 110, 110, 32, 108, 101, 101]⟩, .string ⟨#[67, 105, 100, 32, 79, 39, 78, 101, 105, 108]⟩, .string ⟨#[195, 137, 109, 105, 108, 101, 45, 195, 137, 108, 97, 110, 32, 90, 111, 108]⟩, .string ⟨#[65, 46, 32, 66, 45, 32, 77, 111, 101]⟩, .string ⟨#[108, 97]⟩, .string ⟨#[68, 101, 101, 32, 100, 97]⟩, .string ⟨#[65, 110, 110, 45]⟩, .string ⟨#[45, 65, 110, 110, 32, 76, 101, 101]⟩] 9) _ rfl
  have HS := Lib.hid (some10_any σ n (some ⟨w.heap.size, 0, none⟩) 14 14 bookNames (w.alloc (.cells #[.string ⟨#[65, 110, 110, 32, 76, 101, 101]⟩, .string ⟨#[66, 111, 98, 32, 118, 97, 110, 32, 100, 101, 114, 32, 82, 97, 121]⟩, .string ⟨#[118, 97, 110, 32, 82, 97, 121]⟩, .string ⟨#[100, 101, 32, 108, 97, 32, 67, 114, 117, 122]⟩, .string ⟨#[74, 101, 97, 110, 45, 76, 117, 99, 32, 100, 101, 32, 108, 97, 32, 67, 114, 117, 122]⟩, .string ⟨#[80, 108, 97, 116, 111]⟩, .string ⟨#[97, 110, 110, 32, 108, 101, 101]⟩, .string ⟨#[67, 105, 100, 32, 79, 39, 78, 101, 105, 108]⟩, .string ⟨#[195, 137, 109, 105, 108, 101, 45, 195, 137, 108, 97, 110, 32, 90, 111, 108]⟩, .string ⟨#[65, 46, 32, 66, 45, 32, 77, 111, 101]⟩, .string ⟨#[108, 97]⟩, .string ⟨#[68, 101, 101, 32, 100, 97]⟩, .string ⟨#[65, 110, 110, 45]⟩, .string ⟨#[45, 65, 110, 110, 32, 76, 101, 101]⟩] 9)) (hs.keep hk) (by omega) (Sl.lit_strs bookNames hblk rfl (by omega)) (by decide) (by decide))
  have hb : But σ.b w (w.alloc (.cells #[.string ⟨#[65, 110, 110, 32, 76, 101, 101]⟩, .string ⟨#[66, 111, 98, 32, 118, 97, 110, 32, 100, 101, 114, 32, 82, 97, 121]⟩, .string ⟨#[118, 97, 110, 32, 82, 97, 121]⟩, .string ⟨#[100, 101, 32, 108, 97, 32, 67, 114, 117, 122]⟩, .string ⟨#[74, 101, 97, 110, 45, 76, 117, 99, 32, 100, 101, 32, 108, 97, 32, 67, 114, 117, 122]⟩, .string ⟨#[80, 108, 97, 116, 111]⟩, .string ⟨#[97, 110, 110, 32, 108, 101, 101]⟩, .string ⟨#[67, 105, 100, 32, 79, 39, 78, 101, 105, 108]⟩, .string ⟨#[195, 137, 109, 105, 108, 101, 45, 195, 137, 108, 97, 110, 32, 90, 111, 108]⟩, .string ⟨#[65, 46, 32, 66, 45, 32, 77, 111, 101]⟩, .string ⟨#[108, 97]⟩, .string ⟨#[68, 101, 101, 32, 100, 97]⟩, .string ⟨#[65, 110, 110, 45]⟩, .string ⟨#[45, 65, 110, 110, 32, 76, 101, 101]⟩] 9)) := Kept.all hk
  clear hs hblk hk
  go_enter Tryd.func4, Tryd.ntmps4
  go_wp2_with fail
  refine HS.out.mono ?_
  rintro e w1 ⟨v, m, rfl, ⟨r, rfl, hr, -⟩, h1, h2, hs1, hb1⟩
  have hz := bookNames_small r hr
  go_wp2_with fail
  go_ret
  exact ⟨_, m, rfl, ⟨r, rfl, hz⟩, h1, h2, hs1, hb.trans hb1⟩

theorem ext_size (s : ByteArray) (a b : Nat) : (s.extract a b).size ≤ s.size := by
  rw [ByteArray.size_extract]
  omega
set_option maxRecDepth 100000 in
set_option maxHeartbeats 6400000 in
theorem changed_any (σ : St) (n : Nat) (t wt : ByteArray) (w : World) (hs : Str σ w n) (hn : n ≤ 1000000) (ht : t.size ≤ 900000) (h1 : 0 < wt.size) (h2 : wt.size ≤ 100) :
    Calls Tryd.prog 6 #[.pointer (some ⟨σ.b, 0, none⟩), .string t, .string wt] w (StPost σ n 3 w (IsStr fun r => r.size ≤ t.size + 100)) := by
  have dw : (wt.toList == []) = false := by rw [beq_eq_false_iff_ne]; exact toList_ne (by omega)
  by_cases h0 : t.size = 0
  · have dt : (t.toList == []) = true := by rw [toList_nil h0]; rfl
    go_enter Tryd.func6, Tryd.ntmps6
    go_wp2_with fail
    go_ret
    exact ⟨_, n, rfl, ⟨wt, rfl, by omega⟩, Nat.le_refl _, by omega, hs, Kept.refl _ _⟩
  · have dt : (t.toList == []) = false := by rw [beq_eq_false_iff_ne]; exact toList_ne h0
    go_enter Tryd.func6, Tryd.ntmps6
    go_wp2_with fail
    refine (next_any σ n _ _ hs (by omega) (by omega) (by omega)).mono ?_
    rintro e w1 ⟨v, n1, rfl, ⟨i, rfl, hi1, hi2⟩, hm1, hm2, hs1, hb1⟩
    obtain ⟨i, rfl⟩ := Int.eq_ofNat_of_zero_le hi1
    go_wp2_with fail
    refine (next_any σ n1 _ _ hs1 (by omega) (by omega) (by omega)).mono ?_
    rintro e w2 ⟨v, n2, rfl, ⟨j, rfl, hj1, hj2⟩, hm3, hm4, hs2, hb2⟩
    obtain ⟨j, rfl⟩ := Int.eq_ofNat_of_zero_le hj1
    have hjw : j < wt.size := by omega
    have hit : i < t.size := by omega
    go_wp2_with fail
    refine (next_any σ n2 _ _ hs2 (by omega) (by omega) (by omega)).mono ?_
    rintro e w3 ⟨v, n3, rfl, ⟨z, rfl, hz1, hz2⟩, hm5, hm6, hs3, hb3⟩
    have hb13 := (hb1.trans hb2).trans hb3
    have hfin : n ≤ n3 ∧ n3 ≤ n + 3 := by omega
    have HS3 := Lib.hid hs3
    clear hs hs1 hs2 hs3 hb1 hb2 hb3 hm1 hm2 hm3 hm4 hm5 hm6 dt dw
    obtain ⟨cz, hcz⟩ : ∃ c, c = wt[j].toNat := ⟨_, rfl⟩
    have hcb : cz < 256 := by rw [hcz]; exact wt[j].toNat_lt
    rw [← hcz]
    clear hcz
    have f1 : IntKind.i64.wrap ((i : Int) + 1) = ((i + 1 : Nat) : Int) := by rw [IntWalk.i64_in _ (by omega)]; omega
    have f2 : (0 : Int) ≤ (i : Int) := by omega
    have f3 : (i : Int) ≤ (t.size : Int) := by omega
    have f4 : (0 : Int) ≤ ((i + 1 : Nat) : Int) := by omega
    have f5 : ((i + 1 : Nat) : Int) ≤ (t.size : Int) := by omega
    have hx1 := ext_size t 0 i
    have hx2 := ext_size t (i + 1) t.size
    have hx3 := ext_size t i t.size
    have hx4 : (t.extract 0 i).size = i := by rw [ByteArray.size_extract]; omega
    have hx5 : (t.extract (i + 1) t.size).size = t.size - (i + 1) := by rw [ByteArray.size_extract]; omega
    have hx6 : (t.extract i t.size).size = t.size - i := by rw [ByteArray.size_extract]; omega
    have f6 : IntKind.i32.wrap (cz : Int) = (cz : Int) := IntWalk.i32_in _ (by omega)
    have hez : (Utf8.encode (cz : Int)).size ≤ 4 := encode_size_le _
    have hcase : z = 0 ∨ z = 1 ∨ z = 2 := by omega
    rcases hcase with rfl | rfl | rfl
    · obtain ⟨t1, ht1, hzz1, g1⟩ := catRun Tryd.prog (t.extract 0 i) (Utf8.encode (cz : Int)) (by omega)
      obtain ⟨t2, ht2, hzz2, g2⟩ := catRun Tryd.prog t1 (t.extract (i + 1) t.size) (by omega)
      have hsz : t2.size ≤ t.size + 100 := by omega
      clear ht1 ht2 hzz1 hzz2 hez hx1 hx2 hx3 hx4 hx5 hx6
      go_wp2_with fail
      go_quiet (fail)
      go_wp2_with fail
      go_ret
      exact ⟨_, n3, rfl, ⟨t2, rfl, hsz⟩, hfin.1, hfin.2, HS3.out.keep (Kept.drewN _ _ _), hb13.then_drewN _⟩
    · obtain ⟨t1, ht1, hzz1, g1⟩ := catRun Tryd.prog (t.extract 0 i) (Utf8.encode (cz : Int)) (by omega)
      obtain ⟨t2, ht2, hzz2, g2⟩ := catRun Tryd.prog t1 (t.extract i t.size) (by omega)
      have hsz : t2.size ≤ t.size + 100 := by omega
      clear ht1 ht2 hzz1 hzz2 hez hx1 hx2 hx3 hx4 hx5 hx6
      go_wp2_with fail
      go_quiet (fail)
      go_wp2_with fail
      go_ret
      exact ⟨_, n3, rfl, ⟨t2, rfl, hsz⟩, hfin.1, hfin.2, HS3.out.keep (Kept.drewN _ _ _), hb13.then_drewN _⟩
    · obtain ⟨t2, ht2, hzz2, g2⟩ := catRun Tryd.prog (t.extract 0 i) (t.extract (i + 1) t.size) (by omega)
      have hsz : t2.size ≤ t.size + 100 := by omega
      clear ht2 hzz2 hez hx1 hx2 hx3 hx4 hx5 hx6
      go_wp2_with fail
      go_quiet (fail)
      go_wp2_with fail
      go_ret
      exact ⟨_, n3, rfl, ⟨t2, rfl, hsz⟩, hfin.1, hfin.2, HS3.out.keep (Kept.drewN _ _ _), hb13.then_drewN _⟩
end Go.Proofs.YtbpbhpmkganefaaDoor
