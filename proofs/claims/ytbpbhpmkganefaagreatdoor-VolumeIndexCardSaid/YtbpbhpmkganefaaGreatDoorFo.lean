/- SortOf and InitialsOf. -/
import Derived.Test.YtbpbhpmkganefaaGreatDoorFn
import Derived.Test.YtbpbhpmkganefaaGreatDoorZm
namespace Go.Proofs.YtbpbhpmkganefaaGreatDoor
open Go.RowKit

/-- What the library's variables hold, strings' table of spaces among them. -/
structure GlobS (w : World) : Prop where
  g : Glob w
  t : Lib.TabIs Tryz.prog w "strings.asciiSpace" .u8 Lib.asciiSpaceTab
theorem space_named : Tryz.prog.globalNamed "strings.asciiSpace" = some 4 := by kernel_rfl
theorem GlobS.kept {F : Nat → Prop} {w w' : World} (h : GlobS w) (k : Kept F w w') (hg : Glob w') (hF : F 4) : GlobS w' := by
  refine ⟨hg, ?_⟩
  have ht := h.t
  unfold Lib.TabIs World.var? at *
  rw [space_named] at *
  simp only [Option.bind_some] at *
  cases hb : w.heap[4]? with
  | none => rw [hb] at ht; cases ht
  | some o => rw [k.heap hb hF]; rw [hb] at ht; exact ht
theorem GlobS.keep {w w' : World} (h : GlobS w) (k : All w w') : GlobS w' := h.kept k (h.g.keep k) trivial

set_option maxRecDepth 100000 in
set_option maxHeartbeats 3200000 in
theorem family_any (s : ByteArray) (w : World) (hs : s.size ≤ 100) (hg : GlobS w) :
    Calls Tryz.prog 72 #[.string s] w fun e w' => ∃ b n : Nat, n = (wordsB s).length ∧ e = .returned (.tuple #[.slice (some ⟨b, 0, none⟩) (cutN s) n, .string (famB s)]) ∧ WordsAt s b w' ∧ All w w' := by
  obtain ⟨mx, hmx⟩ := hg.g.most
  have hsp := Tryz.strings_Split s sepB mx w (by omega) hmx (by decide)
  rw [← wordsB_len] at hsp
  have HSP := Lib.hid hsp
  have hk : All w (w.alloc (.cells ((wordsB s).map Value.string).toArray 9)) := Kept.alloc _ _ _
  have hat : WordsAt s w.heap.size (w.alloc (.cells ((wordsB s).map Value.string).toArray 9)) := heap_at _ _ _ rfl
  obtain ⟨n, hn⟩ : ∃ n, n = (wordsB s).length := ⟨_, rfl⟩
  have hn1 : 1 ≤ n := by rw [hn, wordsB_len]; omega
  have hn2 : n ≤ 1000001 := by rw [hn]; have := wordsB_many s; omega
  have HN := Lib.hid hn
  rw [← hn] at HSP
  have HST := Lib.hid (show cutF (wordsB s) (n - 1) = cutN s by rw [hn]; rfl)
  have hcl : cutN s ≤ n := by have := cutN_lt s; omega
  have HG := Lib.hid hg
  clear hsp hmx hg hn
  obtain ⟨b, hb⟩ : ∃ b, b = w.heap.size := ⟨_, rfl⟩
  have HB := Lib.hid hb
  rw [← hb] at HSP hat
  clear hb
  obtain ⟨fm, hfm⟩ : ∃ f, f = famB s := ⟨_, rfl⟩
  have HFM := Lib.hid hfm
  rw [← hfm]
  clear hfm
  have f0 : IntKind.i64.wrap ((n : Int) - 1) = ((n - 1 : Nat) : Int) := by rw [IntWalk.i64_in _ (by omega)]; omega
  go_enter Tryz.func72, Tryz.ntmps72
  go_wp2_with fail
  refine HSP.out.mono ?_
  rintro e w1 ⟨rfl, hw1⟩
  change w1 = w.alloc (.cells ((wordsB s).map Value.string).toArray 9) at hw1
  rw [← hw1] at hk hat
  have HAT := Lib.hid hat
  have HG1 := Lib.hid (HG.out.keep hk)
  clear hw1 hat
  go_wp2_with fail
  go_loopw [5] (fun i wr => ∃ k : Nat, k + 1 ≤ n ∧ i = .int .i64 k ∧ Hid (cutF (wordsB s) k = cutN s) ∧ All w1 wr) (fun i _ => (intOf i).toNat)
  case atStart => exact ⟨n - 1, by omega, rfl, HST, Kept.refl _ _⟩
  case round =>
    obtain ⟨k, hk2, rfl, HK, hwr⟩ := hrel
    obtain ⟨wo, rfl⟩ : ∃ wo : World, wo = wr := ⟨_, rfl⟩
    -- the end: both slices and Join
    have fin : ∀ (at' : Nat), cutN s = at' → at' ≤ n → ∀ w9, All w1 w9 → WordsAt s b w9 ∧ Calls Tryz.prog 43 #[.slice (some ⟨b, at', none⟩) (n - at') (n - at'), .string sepB] w9 fun e w' => e = .returned (.string fm) ∧ All w9 w' := fun at' h1 h2 w9 hk9 => by
      have hat9 := HAT.out.keep hk9
      refine ⟨hat9, ?_⟩
      have h := joinW_any (s := s) w9 hs hat9 at' (n - at') (n - at') (by have := HN.out; omega) (Nat.le_refl _)
      rw [HFM.out, famB, ← HN.out, h1]
      exact h
    have FIN := Lib.hid fin
    clear fin
    by_cases h1 : 1 < k
    · obtain ⟨m, rfl⟩ : ∃ m, k = m + 1 := ⟨k - 1, by omega⟩
      have hml : m < (wordsB s).length := by have := HN.out; omega
      obtain ⟨x, hx⟩ : ∃ x, (wordsB s)[m]? = some x := ⟨_, List.getElem?_eq_getElem hml⟩
      have c0 := (HAT.out.keep hwr).cell hx
      have hgd : (wordsB s).getD m ⟨#[]⟩ = x := by rw [List.getD_eq_getElem?_getD, hx]; rfl
      have HPA := Lib.hid (particle_any x wo (HG1.out.keep hwr).t)
      obtain ⟨z, hz⟩ : ∃ z : Int, z = ((m + 1 : Nat) : Int) := ⟨_, rfl⟩
      have HZ := Lib.hid hz
      have d1 : decide ((1 : Int) < z) = true := by simp; omega
      have f1 : IntKind.i64.wrap (z - 1) = (m : Int) := by rw [IntWalk.i64_in _ (by omega)]; omega
      have f2 : (0 : Int) ≤ (m : Int) := by omega
      have f3 : (m : Int) < (n : Int) := by omega
      rw [← hz]
      cases hp : particB x with
      | true =>
        have HK2 := Lib.hid (show cutF (wordsB s) m = cutN s by rw [← HK.out, cutF_go (by omega) (by rw [hgd]; exact hp)])
        have HP := Lib.hid hp
        clear hp hx hgd hz hml
        go_wp2_with fail
        refine HPA.out.mono ?_
        rintro e w2 ⟨rfl, hw2⟩
        rw [HP.out]
        have hk2w := hwr.trans hw2
        go_wp2_with fail
        go_roundw
        case rel => exact ⟨m, by omega, rfl, HK2, hk2w⟩
        case measure => simp [intOf]; have := HZ.out; omega
      | false =>
        have HK2 := Lib.hid (show cutN s = m + 1 by rw [← HK.out, cutF_stop (by rw [hgd, hp]; decide)])
        have HP := Lib.hid hp
        have f4 : (0 : Int) ≤ z := by omega
        have f5 : z ≤ (n : Int) := by omega
        clear hp hx hgd hz hml
        go_wp2_with fail
        refine HPA.out.mono ?_
        rintro e w2 ⟨rfl, hw2⟩
        rw [HP.out]
        have hk9 := hwr.trans hw2
        go_wp2_with fail
        rw [HZ.out]
        rw [HZ.out] at f4 f5
        obtain ⟨at', hat'⟩ : ∃ a : Nat, a = m + 1 := ⟨_, rfl⟩
        rw [← hat'] at f4 f5 HK2 ⊢
        have hne9 : ¬ n = at' := by omega
        have hle : at' ≤ n := by omega
        have HA2 := Lib.hid hat'
        clear hat'
        generalize w2 = w9 at *
        have HJ := Lib.hid (fun (wx : World) (kx : All w9 wx) => (FIN.out at' HK2.out hle wx (hk9.trans kx)).2)
        refine wp_region_inv 7 (by kernel_rfl) (by kernel_rfl) (by kernel_rfl) (fun _ wx => All w9 wx)
          (DL [QIs ((Value.slice (some ⟨b, 0, none⟩) n n)), QIs ((Value.int .i64 (at' : Int))), QIs (Value.slice (some ⟨b, 0, none⟩) at' n), QIs ((Value.slice (some ⟨b, 0, none⟩) n n)), QIs ((Value.int .i64 (at' : Int))), QIs (Value.slice (some ⟨b, at', none⟩) (n - at') (n - at')), QIs (.string fm)]) All
          (DL.keep (by simp only [List.forall_mem_cons, List.not_mem_nil, false_implies, implies_true, and_true]; exact ⟨QIs.stays _, QIs.stays _, QIs.stays _, QIs.stays _, QIs.stays _, QIs.stays _, QIs.stays _⟩)) ?_ ?_ ?_
        · exact Kept.drew _ _
        · intro i o t ho hd hi k' a' wx hk' hg hdf hts hoth hdeps
          have hszx := hg.size
          have hz : i = 0 ∨ i = 1 ∨ i = 2 ∨ i = 3 ∨ i = 4 ∨ i = 5 ∨ i = 6 := by omega
          rcases hz with rfl | rfl | rfl | rfl | rfl | rfl | rfl
          · obtain rfl := Option.some.inj ho
            obtain rfl := Option.some.inj hd
            have e0 : a'.tmps.getD 4 undef = (Value.slice (some ⟨b, 0, none⟩) n n) := tmp_of ((hoth 4 (by decide)).trans rfl)
            clear hoth hdeps hdf hts ho
            refine wp_via (fun K' hK => ?_)
            have HK := Lib.hid hK
            clear hK
            go_simp
            exact HK.out _ _ ⟨_, rfl, hg, Kept.refl _ _, rfl⟩
          · obtain rfl := Option.some.inj ho
            obtain rfl := Option.some.inj hd
            have e0 : a'.tmps.getD 5 undef = (Value.int .i64 (at' : Int)) := tmp_of ((hoth 5 (by decide)).trans rfl)
            clear hoth hdeps hdf hts ho
            refine wp_via (fun K' hK => ?_)
            have HK := Lib.hid hK
            clear hK
            go_simp
            exact HK.out _ _ ⟨_, rfl, hg, Kept.refl _ _, rfl⟩
          · obtain rfl := Option.some.inj ho
            obtain rfl := Option.some.inj hd
            have e0 : a'.tmps.getD 23 undef = (Value.slice (some ⟨b, 0, none⟩) n n) := hdeps 0 (by decide) 23 rfl
            have e1 : a'.tmps.getD 24 undef = (Value.int .i64 (at' : Int)) := hdeps 1 (by decide) 24 rfl
            clear hoth hdeps hdf hts ho
            refine wp_via (fun K' hK => ?_)
            have HK := Lib.hid hK
            clear hK
            go_simp
            exact HK.out _ _ ⟨_, rfl, hg, Kept.refl _ _, rfl⟩
          · obtain rfl := Option.some.inj ho
            obtain rfl := Option.some.inj hd
            have e0 : a'.tmps.getD 4 undef = (Value.slice (some ⟨b, 0, none⟩) n n) := tmp_of ((hoth 4 (by decide)).trans rfl)
            clear hoth hdeps hdf hts ho
            refine wp_via (fun K' hK => ?_)
            have HK := Lib.hid hK
            clear hK
            go_simp
            exact HK.out _ _ ⟨_, rfl, hg, Kept.refl _ _, rfl⟩
          · obtain rfl := Option.some.inj ho
            obtain rfl := Option.some.inj hd
            have e0 : a'.tmps.getD 5 undef = (Value.int .i64 (at' : Int)) := tmp_of ((hoth 5 (by decide)).trans rfl)
            clear hoth hdeps hdf hts ho
            refine wp_via (fun K' hK => ?_)
            have HK := Lib.hid hK
            clear hK
            go_simp
            exact HK.out _ _ ⟨_, rfl, hg, Kept.refl _ _, rfl⟩
          · obtain rfl := Option.some.inj ho
            obtain rfl := Option.some.inj hd
            have e0 : a'.tmps.getD 26 undef = (Value.slice (some ⟨b, 0, none⟩) n n) := hdeps 3 (by decide) 26 rfl
            have e1 : a'.tmps.getD 27 undef = (Value.int .i64 (at' : Int)) := hdeps 4 (by decide) 27 rfl
            clear hoth hdeps hdf hts ho
            refine wp_via (fun K' hK => ?_)
            have HK := Lib.hid hK
            clear hK
            go_simp
            exact HK.out _ _ ⟨_, rfl, hg, Kept.refl _ _, rfl⟩
          · obtain rfl := Option.some.inj ho
            obtain rfl := Option.some.inj hd
            have e0 : a'.tmps.getD 28 undef = (Value.slice (some ⟨b, at', none⟩) (n - at') (n - at')) := hdeps 5 (by decide) 28 rfl
            clear hoth hdeps hdf hts ho
            refine wp_via (fun K' hK => ?_)
            have HK := Lib.hid hK
            clear hK
            go_simp
            refine (HJ.out wx hg).mono ?_
            rintro e w4 ⟨rfl, hw4⟩
            exact HK.out _ _ ⟨_, rfl, hg.trans hw4, hw4, rfl⟩
        · intro wx f hg hd
          have e25 : f 25 = Value.slice (some ⟨b, 0, none⟩) at' n := hd 2 25 (by decide) rfl
          have e29 : f 29 = .string fm := hd 6 29 (by decide) rfl
          rw [show dsts _ 7 = [23, 24, 25, 26, 27, 28, 29] from by kernel_rfl]
          simp only [List.map_cons, List.map_nil, puts, Act.put, e25, e29, List.drop_succ_cons, List.drop_zero]
          generalize f 23 = f23
          generalize f 24 = f24
          generalize f 26 = f26
          generalize f 27 = f27
          generalize f 28 = f28
          simp only [List.setIfInBounds_toArray, List.set_cons_zero, List.set_cons_succ]
          have hkx := hk9.trans hg
          clear hd e25 e29 f hg
          go_wp2_with fail
          go_ret2
          exact ⟨b, n, HN.out, by rw [HK2.out]; rfl, HAT.out.keep hkx, hk.trans hkx⟩
    · have d1 : decide ((1 : Int) < (k : Int)) = false := by simp; omega
      have HK2 := Lib.hid (show cutN s = k by rw [← HK.out, cutF_low (by omega)])
      have f4 : (0 : Int) ≤ (k : Int) := by omega
      have f5 : (k : Int) ≤ (n : Int) := by omega
      have hk9 := hwr
      go_wp2_with fail
      obtain ⟨at', hat'⟩ : ∃ a : Nat, a = k := ⟨_, rfl⟩
      rw [← hat'] at f4 f5 HK2 ⊢
      have hne9 : ¬ n = at' := by omega
      have hle : at' ≤ n := by omega
      have HA2 := Lib.hid hat'
      clear hat'
      generalize wo = w9 at *
      have HJ := Lib.hid (fun (wx : World) (kx : All w9 wx) => (FIN.out at' HK2.out hle wx (hk9.trans kx)).2)
      refine wp_region_inv 7 (by kernel_rfl) (by kernel_rfl) (by kernel_rfl) (fun _ wx => All w9 wx)
        (DL [QIs ((Value.slice (some ⟨b, 0, none⟩) n n)), QIs ((Value.int .i64 (at' : Int))), QIs (Value.slice (some ⟨b, 0, none⟩) at' n), QIs ((Value.slice (some ⟨b, 0, none⟩) n n)), QIs ((Value.int .i64 (at' : Int))), QIs (Value.slice (some ⟨b, at', none⟩) (n - at') (n - at')), QIs (.string fm)]) All
        (DL.keep (by simp only [List.forall_mem_cons, List.not_mem_nil, false_implies, implies_true, and_true]; exact ⟨QIs.stays _, QIs.stays _, QIs.stays _, QIs.stays _, QIs.stays _, QIs.stays _, QIs.stays _⟩)) ?_ ?_ ?_
      · exact Kept.drew _ _
      · intro i o t ho hd hi k' a' wx hk' hg hdf hts hoth hdeps
        have hszx := hg.size
        have hz : i = 0 ∨ i = 1 ∨ i = 2 ∨ i = 3 ∨ i = 4 ∨ i = 5 ∨ i = 6 := by omega
        rcases hz with rfl | rfl | rfl | rfl | rfl | rfl | rfl
        · obtain rfl := Option.some.inj ho
          obtain rfl := Option.some.inj hd
          have e0 : a'.tmps.getD 4 undef = (Value.slice (some ⟨b, 0, none⟩) n n) := tmp_of ((hoth 4 (by decide)).trans rfl)
          clear hoth hdeps hdf hts ho
          refine wp_via (fun K' hK => ?_)
          have HK := Lib.hid hK
          clear hK
          go_simp
          exact HK.out _ _ ⟨_, rfl, hg, Kept.refl _ _, rfl⟩
        · obtain rfl := Option.some.inj ho
          obtain rfl := Option.some.inj hd
          have e0 : a'.tmps.getD 5 undef = (Value.int .i64 (at' : Int)) := tmp_of ((hoth 5 (by decide)).trans rfl)
          clear hoth hdeps hdf hts ho
          refine wp_via (fun K' hK => ?_)
          have HK := Lib.hid hK
          clear hK
          go_simp
          exact HK.out _ _ ⟨_, rfl, hg, Kept.refl _ _, rfl⟩
        · obtain rfl := Option.some.inj ho
          obtain rfl := Option.some.inj hd
          have e0 : a'.tmps.getD 23 undef = (Value.slice (some ⟨b, 0, none⟩) n n) := hdeps 0 (by decide) 23 rfl
          have e1 : a'.tmps.getD 24 undef = (Value.int .i64 (at' : Int)) := hdeps 1 (by decide) 24 rfl
          clear hoth hdeps hdf hts ho
          refine wp_via (fun K' hK => ?_)
          have HK := Lib.hid hK
          clear hK
          go_simp
          exact HK.out _ _ ⟨_, rfl, hg, Kept.refl _ _, rfl⟩
        · obtain rfl := Option.some.inj ho
          obtain rfl := Option.some.inj hd
          have e0 : a'.tmps.getD 4 undef = (Value.slice (some ⟨b, 0, none⟩) n n) := tmp_of ((hoth 4 (by decide)).trans rfl)
          clear hoth hdeps hdf hts ho
          refine wp_via (fun K' hK => ?_)
          have HK := Lib.hid hK
          clear hK
          go_simp
          exact HK.out _ _ ⟨_, rfl, hg, Kept.refl _ _, rfl⟩
        · obtain rfl := Option.some.inj ho
          obtain rfl := Option.some.inj hd
          have e0 : a'.tmps.getD 5 undef = (Value.int .i64 (at' : Int)) := tmp_of ((hoth 5 (by decide)).trans rfl)
          clear hoth hdeps hdf hts ho
          refine wp_via (fun K' hK => ?_)
          have HK := Lib.hid hK
          clear hK
          go_simp
          exact HK.out _ _ ⟨_, rfl, hg, Kept.refl _ _, rfl⟩
        · obtain rfl := Option.some.inj ho
          obtain rfl := Option.some.inj hd
          have e0 : a'.tmps.getD 26 undef = (Value.slice (some ⟨b, 0, none⟩) n n) := hdeps 3 (by decide) 26 rfl
          have e1 : a'.tmps.getD 27 undef = (Value.int .i64 (at' : Int)) := hdeps 4 (by decide) 27 rfl
          clear hoth hdeps hdf hts ho
          refine wp_via (fun K' hK => ?_)
          have HK := Lib.hid hK
          clear hK
          go_simp
          exact HK.out _ _ ⟨_, rfl, hg, Kept.refl _ _, rfl⟩
        · obtain rfl := Option.some.inj ho
          obtain rfl := Option.some.inj hd
          have e0 : a'.tmps.getD 28 undef = (Value.slice (some ⟨b, at', none⟩) (n - at') (n - at')) := hdeps 5 (by decide) 28 rfl
          clear hoth hdeps hdf hts ho
          refine wp_via (fun K' hK => ?_)
          have HK := Lib.hid hK
          clear hK
          go_simp
          refine (HJ.out wx hg).mono ?_
          rintro e w4 ⟨rfl, hw4⟩
          exact HK.out _ _ ⟨_, rfl, hg.trans hw4, hw4, rfl⟩
      · intro wx f hg hd
        have e25 : f 25 = Value.slice (some ⟨b, 0, none⟩) at' n := hd 2 25 (by decide) rfl
        have e29 : f 29 = .string fm := hd 6 29 (by decide) rfl
        rw [show dsts _ 7 = [23, 24, 25, 26, 27, 28, 29] from by kernel_rfl]
        simp only [List.map_cons, List.map_nil, puts, Act.put, e25, e29, List.drop_succ_cons, List.drop_zero]
        generalize f 23 = f23
        generalize f 24 = f24
        generalize f 26 = f26
        generalize f 27 = f27
        generalize f 28 = f28
        simp only [List.setIfInBounds_toArray, List.set_cons_zero, List.set_cons_succ]
        have hkx := hk9.trans hg
        clear hd e25 e29 f hg
        go_wp2_with fail
        go_ret2
        exact ⟨b, n, HN.out, by rw [HK2.out]; rfl, HAT.out.keep hkx, hk.trans hkx⟩
end Go.Proofs.YtbpbhpmkganefaaGreatDoor
