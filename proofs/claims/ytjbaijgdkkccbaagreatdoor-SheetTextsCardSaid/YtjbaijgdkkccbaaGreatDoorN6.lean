/- The law SheetTexts, walked. -/
import Derived.Test.YtjbaijgdkkccbaaGreatDoorN5
import Derived.Test.YtjbaijgdkkccbaaGreatDoorN2
import Derived.Test.YtjbaijgdkkccbaaGreatDoorT3
import Derived.Test.YtjbaijgdkkccbaaGreatDoorT4
import Derived.Test.YtjbaijgdkkccbaaGreatDoorAh
import Derived.Test.YtjbaijgdkkccbaaGreatDoorWi
namespace Go.Proofs.YtjbaijgdkkccbaaGreatDoor
open Go.RowKit

theorem Glob.ltT {w : World} (h : Glob w) : 4 < w.heap.size ∧ 5 < w.heap.size ∧ 0 < w.heap.size := by
  obtain ⟨m, hm⟩ := h.most
  exact ⟨lt_of_cell (h.tabs.1 0 (by decide)), lt_of_cell (h.tabs.2 0 (by decide)).1, lt_of_cell hm⟩
theorem outL_le (s : ByteArray) : (outL s).length ≤ 1000 := by
  unfold outL
  split
  · decide
  · rename_i xs hx
    split
    · rename_i hf
      have := (sheetF_fitT hf).2
      omega
    · decide
set_option maxRecDepth 100000 in
set_option maxHeartbeats 12800000 in
theorem sheetTexts_walk (a : Option Addr) (len cap : Nat) (w : World) (h : IsRow w a len cap) (hG : Glob w) (hP : Pow w) :
    Calls Tryz.prog 7 #[.slice a len cap] w fun e w' => e = .returned (.bool true) ∧ Below w.heap.size w w' := by
  have hst := h.start
  obtain ⟨σ, hσ⟩ : ∃ σ : St, σ = ⟨w.heap.size, a, len, cap⟩ := ⟨_, rfl⟩
  have hσb : σ.b = w.heap.size := by rw [hσ]
  rw [← hσ] at hst
  have hptr : (Value.pointer (some ⟨w.heap.size, 0, none⟩)) = Value.pointer (some ⟨σ.b, 0, none⟩) := by rw [hσb]
  have Hptr := Lib.hid hptr
  have Hσ := Lib.hid hσb
  have hk0 : But σ.b w (w.alloc (.cells #[.slice a len cap, .int .i64 0] 25)) := Kept.alloc _ _ _
  have hgl := hG.ltT
  have hpl := hP.lt
  have HG := Lib.hid (fun (wx : World) (k : But σ.b w wx) => (⟨hG.kept k (by omega) (by omega) (by omega), hP.kept k (by omega)⟩ : GlobP wx))
  clear hσ hσb hptr h hG hgl hP hpl
  go_enter Tryz.func7, Tryz.ntmps7
  go_upto_region 2 with fail
  simp only [Hptr.out]
  generalize (w.alloc (.cells #[.slice a len cap, .int .i64 0] 25)) = w0 at *
  have hl0 := hst.lt
  go_wp2_with fail
  refine (sheet_any σ 0 _ hst (by omega)).mono ?_
  rintro e w1 ⟨v, n1, rfl, ⟨xs, -, hx2, acx⟩, -, hn1, hs1, hb1⟩
  obtain ⟨ax, cx, rfl, slx⟩ := acx.sl RQst.ok (by decide) (G := fun _ => True) (fun _ _ => trivial) (fun _ _ => trivial)
  obtain ⟨lx, hlx⟩ : ∃ l, l = xs.length := ⟨_, rfl⟩
  rw [← hlx] at slx hx2 ⊢
  have hk1 := hk0.trans hb1
  have HT := Lib.hid (textSheet_any ax lx cx xs w1 slx (by omega) (HG.out _ hk1))
  have HF := Lib.hid (fun (wx : World) (k : All w1 wx) => sheetFault_any ax lx cx xs wx (slx.keep RQst.ok k) (by omega))
  have HL := Lib.hid (fun (wx : World) (k : All w1 wx) (hf : sheetF xs = 0) => sheetLines_any ax lx cx xs wx (slx.keep RQst.ok k) (sheetF_fitT hf).1 (by omega) ((HG.out _ hk1).p.keep k))
  have HS1 := Lib.hid (fun (wx : World) (k : All w1 wx) => hs1.keep k)
  have HK1 := Lib.hid (fun (wx : World) (k : All w1 wx) => (show But σ.b w wx from hk1.trans (k.mono (fun _ _ => trivial))))
  clear hlx acx hst hb1 hk0 slx hs1 hk1
  obtain ⟨ef, hef⟩ : ∃ z, z = sheetF xs := ⟨_, rfl⟩
  obtain ⟨tx, htx⟩ : ∃ z : ByteArray, z = ⟨(sheetL xs).toArray⟩ := ⟨_, rfl⟩
  rw [← hef, ← htx] at HT
  rw [← hef] at HF
  rw [← hef, ← htx] at HL
  clear hef htx
  by_cases hf : ef = 0
  · subst hf
    rw [if_pos rfl] at HT
    go_wp2_with fail
    refine HT.out.mono ?_
    rintro e w2 ⟨rfl, hw2⟩
    go_wp2_with fail
    refine (HF.out _ hw2).mono ?_
    rintro e w2a ⟨rfl, hw2a⟩
    have hw2b := hw2.trans hw2a
    have HL2 := Lib.hid (HL.out _ hw2b (by trivial))
    clear hw2 hw2a HL HF HT
    go_wp2_with fail
    refine HL2.out.mono ?_
    rintro e w2c ⟨rfl, hw2c⟩
    have hk2 := HK1.out _ (hw2b.trans hw2c)
    have hs2 := HS1.out _ (hw2b.trans hw2c)
    have hl2 := hs2.lt
    clear hw2b hw2c HL2 HK1 HS1
    go_wp2_with fail
    refine (rightSheetF_any σ n1 _ hs2 (by omega)).mono ?_
    rintro e w3 ⟨v, n3, rfl, ⟨ys, hyf, hyl, hy1, hy4, acy⟩, -, hn3, hs3, hb3⟩
    have hk3 := hk2.trans hb3
    clear hs2 hk2 hb3
    have hlow3 := hs3.lt
    have HK3 := Lib.hid hk3
    have hacy := acy.sl RQst.ok (by decide) (G := fun _ => True) (fun _ _ => trivial) (fun _ _ => trivial)
    obtain ⟨ay, cy, hvy, sly⟩ := hacy
    subst hvy
    have HLN := Lib.hid (sheetLines_any ay _ cy ys w3 sly hyf (by omega) (HG.out _ hk3).p)
    obtain ⟨tx0, htx0⟩ : ∃ z : ByteArray, z = ⟨(sheetL ys).toArray⟩ := ⟨_, rfl⟩
    have hts0 : tx0.size ≤ 600 := by rw [htx0]; show (sheetL ys).toArray.size ≤ 600; rw [List.size_toArray]; exact hyl
    rw [← htx0] at HLN
    clear acy sly hyf hyl htx0 hy1 hy4 hk3
    go_wp2_with fail
    refine HLN.out.mono ?_
    rintro e w4 ⟨rfl, hw4⟩
    have hs4 := hs3.keep hw4
    have hk4 := Lib.hid (HK3.out.trans (hw4.mono (fun _ _ => trivial)))
    clear hs3 hw4 HLN
    have hl4 := hs4.lt
    obtain ⟨br, hbr⟩ : ∃ b, b = w4.heap.size := ⟨_, rfl⟩
    have hrow := heap_at w4 (.cells #[.int .i64 0, .int .i64 1, .int .i64 1, .int .i64 2] 3) br hbr
    have hs5 := hs4.keep (Kept.alloc _ w4 (.cells #[.int .i64 0, .int .i64 1, .int .i64 1, .int .i64 2] 3))
    have hk5 := Lib.hid (hk4.out.trans (Kept.alloc _ w4 (.cells #[.int .i64 0, .int .i64 1, .int .i64 1, .int .i64 2] 3)))
    have hbr2 : br ≠ σ.b := by omega
    have HBR := Lib.hid hbr
    have HP := Lib.hid (pick_any σ n3 (some ⟨br, 0, none⟩) 4 4 [0, 1, 1, 2] _ hs5 (by omega) (Sl.lit_ints _ hrow rfl hbr2) (by decide) (by decide))
    clear hrow hs4 hbr hs5 hk4
    go_wp2_with fail
    simp only [← HBR.out]
    generalize w4.alloc (.cells #[.int .i64 0, .int .i64 1, .int .i64 1, .int .i64 2] 3) = w5 at *
    refine HP.out.mono ?_
    rintro e w6 ⟨v, n6, rfl, ⟨z, rfl, hz⟩, -, hn6, hs6, hb6⟩
    have hz2 : 0 ≤ z ∧ z ≤ 2 := by simp at hz; omega
    obtain ⟨Z, rfl⟩ := Int.eq_ofNat_of_zero_le hz2.1
    have hZ : Z ≤ 2 := by omega
    have hk6 := hk5.out.trans hb6
    clear hz hz2 HP hb6 hk5 HBR hbr2
    go_wp2_with fail
    go_loopw [5, 52] (fun t i wr => ∃ (k n : Nat) (x : ByteArray), k ≤ Z ∧ t = .string x ∧ i = .int .i64 k ∧ x.size ≤ 600 + 100 * k ∧ n ≤ 1000 + 10 * k ∧ Str σ wr n ∧ But σ.b w wr) (fun _ i _ => Z - (intOf i).toNat)
    case atStart => exact ⟨0, n6, tx0, Nat.zero_le _, rfl, rfl, by omega, by omega, hs6, hk6⟩
    case round =>
      obtain ⟨k, n, x, hk, rfl, rfl, hxs, hn, hsr, hkr⟩ := hrel
      obtain ⟨wo, rfl⟩ : ∃ wo : World, wo = wr := ⟨_, rfl⟩
      by_cases hlt : k < Z
      · have HC := Lib.hid (changed_any σ n x ⟨#[32, 10, 115, 99, 111, 114, 101, 48, 45, 57, 32, 110, 101, 101, 100]⟩ wo hsr (by omega) (by omega) (by decide) (by decide))
        clear hsr hs6 hk6
        go_wp2_with fail
        refine HC.out.mono ?_
        rintro e w7 ⟨v, n7, rfl, ⟨y, rfl, hy⟩, -, hn7, hs7, hb7⟩
        go_wp2_with fail
        go_roundw
        case rel => exact ⟨k + 1, n7, y, by omega, rfl, by go_num, by omega, by omega, hs7, hkr.trans hb7⟩
        case measure => simp [intOf]; omega
      · have hxs9 : x.size ≤ 900 := by omega
        have HR1 := Lib.hid (readSheet_any x wo hxs9 (HG.out _ hkr).g)
        have HR2 := Lib.hid (fun (wx : World) (k : All wo wx) => sheetRead_any x wx hxs9 ((HG.out _ hkr).keep k))
        have HAS := Lib.hid (fun (wx : World) (k : All wo wx) => asked_any wx ((HG.out _ hkr).keep k).g)
        have HOL := Lib.hid (outL_le x)
        have HEND := Lib.hid (fun (wx : World) (k : All wo wx) => (show Below w.heap.size w wx from (hkr.trans (k.mono (fun _ _ => trivial))).below (Nat.le_refl _) (fun j hj => by rw [Hσ.out]; omega)))
        clear hsr hkr hs6 hk6
        go_wp2_with fail
        refine HR1.out.mono ?_
        rintro e w7 ⟨a1, c1, rfl, hsl1, hw7⟩
        go_wp2_with fail
        refine (HR2.out _ hw7).mono ?_
        rintro e w8 ⟨a2, c2, rfl, hsl2, hw8⟩
        have hsl1' := hsl1.keep RQst.ok hw8
        have hk8 := hw7.trans hw8
        have HSS := Lib.hid (sameSheet_any a1 c1 a2 c2 (outL x) w8 hsl1' hsl2 (by have := HOL.out; omega))
        have HA2 := Lib.hid (fun (wx : World) (k : All w8 wx) => HAS.out wx (hk8.trans k))
        have HE2 := Lib.hid (fun (wx : World) (k : All w8 wx) => HEND.out wx (hk8.trans k))
        clear hsl1 hsl2 hsl1' hw7 hw8 hk8 HR1 HR2 HAS HEND HOL
        generalize outL x = ol at *
        generalize outI x = oi at *
        generalize outE x = oe at *
        go_wp2_with fail
        refine HSS.out.mono ?_
        rintro e w9 ⟨rfl, hw9⟩
        go_wp2_with fail
        refine (HA2.out _ hw9).mono ?_
        rintro e w10 ⟨rfl, hw10⟩
        go_wp2_with fail
        go_ret
        exact ⟨rfl, HE2.out _ (hw9.trans hw10)⟩
  · rw [if_neg hf] at HT
    have hzf : (ef == 0) = false := by rw [beq_eq_false_iff_ne]; exact hf
    have hzt : (ef != 0) = true := by rw [bne, hzf]; rfl
    go_wp2_with fail
    refine HT.out.mono ?_
    rintro e w2 ⟨rfl, hw2⟩
    go_wp2_with fail
    refine (HF.out _ hw2).mono ?_
    rintro e w2a ⟨rfl, hw2a⟩
    have hw2b := hw2.trans hw2a
    have hk2 := HK1.out _ hw2b
    have hs2 := HS1.out _ hw2b
    have hl2 := hs2.lt
    clear hw2 hw2a HL HF HT hw2b HK1 HS1
    go_wp2_with fail
    refine (rightSheetF_any σ n1 _ hs2 (by omega)).mono ?_
    rintro e w3 ⟨v, n3, rfl, ⟨ys, hyf, hyl, hy1, hy4, acy⟩, -, hn3, hs3, hb3⟩
    have hk3 := hk2.trans hb3
    clear hs2 hk2 hb3 hf hzf hzt
    have hlow3 := hs3.lt
    have HK3 := Lib.hid hk3
    have hacy := acy.sl RQst.ok (by decide) (G := fun _ => True) (fun _ _ => trivial) (fun _ _ => trivial)
    obtain ⟨ay, cy, hvy, sly⟩ := hacy
    subst hvy
    have HLN := Lib.hid (sheetLines_any ay _ cy ys w3 sly hyf (by omega) (HG.out _ hk3).p)
    obtain ⟨tx0, htx0⟩ : ∃ z : ByteArray, z = ⟨(sheetL ys).toArray⟩ := ⟨_, rfl⟩
    have hts0 : tx0.size ≤ 600 := by rw [htx0]; show (sheetL ys).toArray.size ≤ 600; rw [List.size_toArray]; exact hyl
    rw [← htx0] at HLN
    clear acy sly hyf hyl htx0 hy1 hy4 hk3
    go_wp2_with fail
    refine HLN.out.mono ?_
    rintro e w4 ⟨rfl, hw4⟩
    have hs4 := hs3.keep hw4
    have hk4 := Lib.hid (HK3.out.trans (hw4.mono (fun _ _ => trivial)))
    clear hs3 hw4 HLN
    have hl4 := hs4.lt
    obtain ⟨br, hbr⟩ : ∃ b, b = w4.heap.size := ⟨_, rfl⟩
    have hrow := heap_at w4 (.cells #[.int .i64 0, .int .i64 1, .int .i64 1, .int .i64 2] 3) br hbr
    have hs5 := hs4.keep (Kept.alloc _ w4 (.cells #[.int .i64 0, .int .i64 1, .int .i64 1, .int .i64 2] 3))
    have hk5 := Lib.hid (hk4.out.trans (Kept.alloc _ w4 (.cells #[.int .i64 0, .int .i64 1, .int .i64 1, .int .i64 2] 3)))
    have hbr2 : br ≠ σ.b := by omega
    have HBR := Lib.hid hbr
    have HP := Lib.hid (pick_any σ n3 (some ⟨br, 0, none⟩) 4 4 [0, 1, 1, 2] _ hs5 (by omega) (Sl.lit_ints _ hrow rfl hbr2) (by decide) (by decide))
    clear hrow hs4 hbr hs5 hk4
    go_wp2_with fail
    simp only [← HBR.out]
    generalize w4.alloc (.cells #[.int .i64 0, .int .i64 1, .int .i64 1, .int .i64 2] 3) = w5 at *
    refine HP.out.mono ?_
    rintro e w6 ⟨v, n6, rfl, ⟨z, rfl, hz⟩, -, hn6, hs6, hb6⟩
    have hz2 : 0 ≤ z ∧ z ≤ 2 := by simp at hz; omega
    obtain ⟨Z, rfl⟩ := Int.eq_ofNat_of_zero_le hz2.1
    have hZ : Z ≤ 2 := by omega
    have hk6 := hk5.out.trans hb6
    clear hz hz2 HP hb6 hk5 HBR hbr2
    go_wp2_with fail
    go_loopw [5, 52] (fun t i wr => ∃ (k n : Nat) (x : ByteArray), k ≤ Z ∧ t = .string x ∧ i = .int .i64 k ∧ x.size ≤ 600 + 100 * k ∧ n ≤ 1000 + 10 * k ∧ Str σ wr n ∧ But σ.b w wr) (fun _ i _ => Z - (intOf i).toNat)
    case atStart => exact ⟨0, n6, tx0, Nat.zero_le _, rfl, rfl, by omega, by omega, hs6, hk6⟩
    case round =>
      obtain ⟨k, n, x, hk, rfl, rfl, hxs, hn, hsr, hkr⟩ := hrel
      obtain ⟨wo, rfl⟩ : ∃ wo : World, wo = wr := ⟨_, rfl⟩
      by_cases hlt : k < Z
      · have HC := Lib.hid (changed_any σ n x ⟨#[32, 10, 115, 99, 111, 114, 101, 48, 45, 57, 32, 110, 101, 101, 100]⟩ wo hsr (by omega) (by omega) (by decide) (by decide))
        clear hsr hs6 hk6
        go_wp2_with fail
        refine HC.out.mono ?_
        rintro e w7 ⟨v, n7, rfl, ⟨y, rfl, hy⟩, -, hn7, hs7, hb7⟩
        go_wp2_with fail
        go_roundw
        case rel => exact ⟨k + 1, n7, y, by omega, rfl, by go_num, by omega, by omega, hs7, hkr.trans hb7⟩
        case measure => simp [intOf]; omega
      · have hxs9 : x.size ≤ 900 := by omega
        have HR1 := Lib.hid (readSheet_any x wo hxs9 (HG.out _ hkr).g)
        have HR2 := Lib.hid (fun (wx : World) (k : All wo wx) => sheetRead_any x wx hxs9 ((HG.out _ hkr).keep k))
        have HAS := Lib.hid (fun (wx : World) (k : All wo wx) => asked_any wx ((HG.out _ hkr).keep k).g)
        have HOL := Lib.hid (outL_le x)
        have HEND := Lib.hid (fun (wx : World) (k : All wo wx) => (show Below w.heap.size w wx from (hkr.trans (k.mono (fun _ _ => trivial))).below (Nat.le_refl _) (fun j hj => by rw [Hσ.out]; omega)))
        clear hsr hkr hs6 hk6
        go_wp2_with fail
        refine HR1.out.mono ?_
        rintro e w7 ⟨a1, c1, rfl, hsl1, hw7⟩
        go_wp2_with fail
        refine (HR2.out _ hw7).mono ?_
        rintro e w8 ⟨a2, c2, rfl, hsl2, hw8⟩
        have hsl1' := hsl1.keep RQst.ok hw8
        have hk8 := hw7.trans hw8
        have HSS := Lib.hid (sameSheet_any a1 c1 a2 c2 (outL x) w8 hsl1' hsl2 (by have := HOL.out; omega))
        have HA2 := Lib.hid (fun (wx : World) (k : All w8 wx) => HAS.out wx (hk8.trans k))
        have HE2 := Lib.hid (fun (wx : World) (k : All w8 wx) => HEND.out wx (hk8.trans k))
        clear hsl1 hsl2 hsl1' hw7 hw8 hk8 HR1 HR2 HAS HEND HOL
        generalize outL x = ol at *
        generalize outI x = oi at *
        generalize outE x = oe at *
        go_wp2_with fail
        refine HSS.out.mono ?_
        rintro e w9 ⟨rfl, hw9⟩
        go_wp2_with fail
        refine (HA2.out _ hw9).mono ?_
        rintro e w10 ⟨rfl, hw10⟩
        go_wp2_with fail
        go_ret
        exact ⟨rfl, HE2.out _ (hw9.trans hw10)⟩
end Go.Proofs.YtjbaijgdkkccbaaGreatDoor
