/- Where an entry with a name and a key is. -/
import Derived.Test.YtbpbhpmkganefaaGreatDoorYp
import Derived.Test.YtbpbhpmkganefaaGreatDoorFp
import Derived.Test.YtbpbhpmkganefaaGreatDoorZm
namespace Go.Proofs.YtbpbhpmkganefaaGreatDoor
open Go.RowKit

/-- Function value g with what it has captured answers p of an entry. -/
def AnswersL (P : Program) (g : FuncId) (caps : Array Value) (w : World) (p : Lst3 → Bool) : Prop :=
  ∀ (y : Lst3) (wx : World), All w wx → Calls P g (#[lstVal y] ++ caps) wx fun e w' => e = .returned (.bool (p y)) ∧ All wx w'

set_option maxHeartbeats 800000 in
theorem indexLst_any (g : FuncId) (caps : Array Value) (eg : ∀ args w, (callFunc g args).run Tryz.prog w = .ok (.enter g args) w) (p : Lst3 → Bool)
    (a : Option Addr) (len cap : Nat) (ss : List Lst3) (w : World) (hs : Sl RLst 3 (fun _ => True) w a len ss) (hl : len ≤ 1000000) (hp : AnswersL Tryz.prog g caps w p) :
    Calls Tryz.prog 44 #[.slice a len cap, .func (.func g) #[] caps] w fun e w' => e = .returned (.int .i64 (findG p 0 ss)) ∧ All w w' := by
  have hlen := hs.len
  have HP := Lib.hid hp
  clear hp
  go_enter Tryz.func44, Tryz.ntmps44
  go_wp2
  go_loopw [5, 8] (fun _ i wr => ∃ k : Nat, k ≤ len ∧ i = .int .i64 k ∧ (ss.take k).any p = false ∧ All w wr) (fun _ i _ => len - (intOf i).toNat)
  case atStart => exact ⟨0, Nat.zero_le _, rfl, by simp, Kept.refl _ _⟩
  case round =>
    obtain ⟨k, hk, rfl, hnot, hall⟩ := hrel
    by_cases hlt : k < len
    · obtain ⟨b, off, y, ha, -, c0, c1, c2, hy, htake⟩ := (hs.keep RLst.ok hall).atLst hlt
      have hltake : (ss.take k).length = k := by simp; omega
      have hsplit : ss = ss.take k ++ y :: ss.drop (k + 1) := by rw [← drop_at hy, List.take_append_drop]
      have Hsplit := Lib.hid hsplit
      have Htake := Lib.hid htake
      have Hl := Lib.hid hltake
      have Hnot := Lib.hid hnot
      clear hsplit htake hltake hlen hnot hy
      subst ha
      clear hs
      cases hpy : p y with
      | true =>
        have hfin : findG p 0 ss = k := by rw [Hsplit.out, findG_append Hnot.out, Hl.out, findG, if_pos hpy]; simp
        have Hfin := Lib.hid hfin
        clear hfin
        go_wp2_with fail
        refine (HP.out y _ hall).mono ?_
        rintro e w' ⟨rfl, hw⟩
        rw [hpy]
        go_wp2_with fail
        go_ret
        exact ⟨ret_int' Hfin.out.symm, hall.trans hw⟩
      | false =>
        go_wp2_with fail
        refine (HP.out y _ hall).mono ?_
        rintro e w' ⟨rfl, hw⟩
        rw [hpy]
        go_wp2_with fail
        go_roundw
        case rel => exact ⟨k + 1, by omega, by go_num, by rw [Htake.out, List.any_append, Hnot.out]; simp [hpy], hall.trans hw⟩
        case measure => simp [intOf]; omega
    · have hd : decide ((k : Int) < (len : Int)) = false := by simp; omega
      have hfin : findG p 0 ss = -1 := findG_neg (by rw [List.take_of_length_le (by omega)] at hnot; exact hnot)
      have Hfin := Lib.hid hfin
      clear hfin
      go_wp2
      go_ret
      exact ⟨ret_int' Hfin.out.symm, hall⟩

open Classical in
noncomputable def isKey2 (q : K2) (x : Lst3) : Bool := decide (kOf x = q)
theorem isKey2_and (y : Lst3) (s1 s2 : ByteArray) : isKey2 (s1, s2) y = ((y.key.toList == s2.toList) && (y.name.toList == s1.toList)) := by
  unfold isKey2
  by_cases h1 : y.key = s2
  · by_cases h2 : y.name = s1
    · have : kOf y = (s1, s2) := by rw [← h1, ← h2]
      simp [this, h1, h2]
    · have h3 : ¬ kOf y = (s1, s2) := fun e => h2 (congrArg Prod.fst e)
      have h4 : (y.name.toList == s1.toList) = false := by simp; exact fun e => h2 (bytes_ext e)
      simp [h3, h4]
  · have h3 : ¬ kOf y = (s1, s2) := fun e => h1 (congrArg Prod.snd e)
    have h4 : (y.key.toList == s2.toList) = false := by simp; exact fun e => h1 (bytes_ext e)
    simp [h3, h4]

set_option maxRecDepth 100000 in
set_option maxHeartbeats 6400000 in
theorem idx1_any (cb : Nat) (c : Cred) (y : Lst3) (w : World) (ck : w.cell? ⟨cb, 0, none⟩ = some (.string c.key)) (cn : w.cell? ⟨cb, 1, none⟩ = some (.string c.name)) (hz : c.name.size ≤ 100) (hg : GlobS w) :
    Calls Tryz.prog 45 #[lstVal y, .pointer (some ⟨cb, 0, none⟩)] w fun e w' => e = .returned (.bool (isKey2 (sortB c.name, c.key) y)) ∧ All w w' := by
  have hk1 : All w (w.alloc (.cells #[.string y.name, .string y.key, .slice y.pa y.pl y.pc] 48)) := Kept.alloc _ _ _
  have hyb := heap_at w (.cells #[.string y.name, .string y.key, .slice y.pa y.pl y.pc] 48) _ rfl
  obtain ⟨yb, hybe⟩ : ∃ x, x = w.heap.size := ⟨_, rfl⟩
  have HYB := Lib.hid hybe
  rw [← hybe] at hyb
  have HC := Lib.hid (fun (wx : World) (k : All (w.alloc (.cells #[.string y.name, .string y.key, .slice y.pa y.pl y.pc] 48)) wx) => (⟨k.cell (cell_at (i := 0) hyb rfl) trivial, k.cell (cell_at (i := 1) hyb rfl) trivial, k.cell (hk1.cell ck trivial) trivial, k.cell (hk1.cell cn trivial) trivial⟩ : _ ∧ _ ∧ _ ∧ _))
  have HG := Lib.hid (fun (wx : World) (k : All (w.alloc (.cells #[.string y.name, .string y.key, .slice y.pa y.pl y.pc] 48)) wx) => sortOf_any c.name wx hz (hg.keep (hk1.trans k)))
  have HW := Lib.hid (isKey2_and y (sortB c.name) c.key)
  clear hybe hyb ck cn hg
  go_enter Tryz.func45, Tryz.ntmps45
  go_wp2_with fail
  simp only [← HYB.out]
  generalize w.alloc (.cells #[.string y.name, .string y.key, .slice y.pa y.pl y.pc] 48) = w1 at *
  refine wp_region_guard 12 5 9 true (by kernel_rfl) (by kernel_rfl) (by kernel_rfl) (fun _ wx => All w1 wx)
    (DL [QIs (.pointer (some ⟨yb, 1, none⟩)), QIs (.string y.key), QIs (.pointer (some ⟨cb, 0, none⟩)), QIs (.string c.key), QIs (.bool (y.key.toList == c.key.toList)), QIs (.bool (y.key.toList == c.key.toList)), QIs (.pointer (some ⟨yb, 0, none⟩)), QIs (.string y.name), QIs (.pointer (some ⟨cb, 1, none⟩)), QIs (.string c.name), QIs (.string (sortB c.name)), QIs (.bool (y.name.toList == (sortB c.name).toList))]) All (fun _ => Kept.refl _ _)
    (DL.keep (by simp only [List.forall_mem_cons, List.not_mem_nil, false_implies, implies_true, and_true]; exact ⟨QIs.stays _, QIs.stays _, QIs.stays _, QIs.stays _, QIs.stays _, QIs.stays _, QIs.stays _, QIs.stays _, QIs.stays _, QIs.stays _, QIs.stays _, QIs.stays _⟩)) (Kept.drew _ _) (fun _ _ h => h) (fun v w h => ⟨_, h⟩) ?_ ?_
  · intro i o t ho hd hi k' a' wx hk' hg hdf hts hoth hgu hdeps
    have hz : i = 0 ∨ i = 1 ∨ i = 2 ∨ i = 3 ∨ i = 4 ∨ i = 5 ∨ i = 6 ∨ i = 7 ∨ i = 8 ∨ i = 9 ∨ i = 10 ∨ i = 11 := by omega
    rcases hz with rfl | rfl | rfl | rfl | rfl | rfl | rfl | rfl | rfl | rfl | rfl | rfl
    · obtain rfl := Option.some.inj ho
      obtain rfl := Option.some.inj hd
      have e0 : a'.tmps.getD 2 undef = .pointer (some ⟨yb, 0, none⟩) := tmp_of ((hoth 2 (by decide)).trans rfl)
      clear hoth hdeps hdf hts ho hgu
      refine wp_via (fun K' hK => ?_)
      have HK := Lib.hid hK
      clear hK
      go_simp
      exact HK.out _ _ ⟨_, rfl, hg, Kept.refl _ _, rfl⟩
    · obtain rfl := Option.some.inj ho
      obtain rfl := Option.some.inj hd
      have e0 : a'.tmps.getD 4 undef = .pointer (some ⟨yb, 1, none⟩) := hdeps 0 (by decide) 4 rfl (fun h => by cases h)
      have c9 := (HC.out _ hg).2.1
      clear hoth hdeps hdf hts ho hgu
      refine wp_via (fun K' hK => ?_)
      have HK := Lib.hid hK
      clear hK
      go_simp
      exact HK.out _ _ ⟨_, rfl, hg, Kept.refl _ _, rfl⟩
    · obtain rfl := Option.some.inj ho
      obtain rfl := Option.some.inj hd
      have e0 : a'.tmps.getD 1 undef = .pointer (some ⟨cb, 0, none⟩) := tmp_of ((hoth 1 (by decide)).trans rfl)
      clear hoth hdeps hdf hts ho hgu
      refine wp_via (fun K' hK => ?_)
      have HK := Lib.hid hK
      clear hK
      go_simp
      exact HK.out _ _ ⟨_, rfl, hg, Kept.refl _ _, rfl⟩
    · obtain rfl := Option.some.inj ho
      obtain rfl := Option.some.inj hd
      have e0 : a'.tmps.getD 6 undef = .pointer (some ⟨cb, 0, none⟩) := hdeps 2 (by decide) 6 rfl (fun h => by cases h)
      have c9 := (HC.out _ hg).2.2.1
      clear hoth hdeps hdf hts ho hgu
      refine wp_via (fun K' hK => ?_)
      have HK := Lib.hid hK
      clear hK
      go_simp
      exact HK.out _ _ ⟨_, rfl, hg, Kept.refl _ _, rfl⟩
    · obtain rfl := Option.some.inj ho
      obtain rfl := Option.some.inj hd
      have e0 : a'.tmps.getD 5 undef = .string y.key := hdeps 1 (by decide) 5 rfl (fun h => by cases h)
      have e1 : a'.tmps.getD 7 undef = .string c.key := hdeps 3 (by decide) 7 rfl (fun h => by cases h)
      clear hoth hdeps hdf hts ho hgu
      refine wp_via (fun K' hK => ?_)
      have HK := Lib.hid hK
      clear hK
      go_simp
      exact HK.out _ _ ⟨_, rfl, hg, Kept.refl _ _, rfl⟩
    · obtain rfl := Option.some.inj ho
      obtain rfl := Option.some.inj hd
      have e0 : a'.tmps.getD 8 undef = .bool (y.key.toList == c.key.toList) := hdeps 4 (by decide) 8 rfl (fun h => by cases h)
      clear hoth hdeps hdf hts ho hgu
      refine wp_via (fun K' hK => ?_)
      have HK := Lib.hid hK
      clear hK
      go_simp
      exact HK.out _ _ ⟨_, rfl, hg, Kept.refl _ _, rfl⟩
    · obtain rfl := Option.some.inj ho
      obtain rfl := Option.some.inj hd
      have e0 : a'.tmps.getD 2 undef = .pointer (some ⟨yb, 0, none⟩) := tmp_of ((hoth 2 (by decide)).trans rfl)
      clear hoth hdeps hdf hts ho hgu
      refine wp_via (fun K' hK => ?_)
      have HK := Lib.hid hK
      clear hK
      go_simp
      exact HK.out _ _ ⟨_, rfl, hg, Kept.refl _ _, rfl⟩
    · obtain rfl := Option.some.inj ho
      obtain rfl := Option.some.inj hd
      have e0 : a'.tmps.getD 10 undef = .pointer (some ⟨yb, 0, none⟩) := hdeps 6 (by decide) 10 rfl (fun h => hgu rfl)
      have c9 := (HC.out _ hg).1
      clear hoth hdeps hdf hts ho hgu
      refine wp_via (fun K' hK => ?_)
      have HK := Lib.hid hK
      clear hK
      go_simp
      exact HK.out _ _ ⟨_, rfl, hg, Kept.refl _ _, rfl⟩
    · obtain rfl := Option.some.inj ho
      obtain rfl := Option.some.inj hd
      have e0 : a'.tmps.getD 1 undef = .pointer (some ⟨cb, 0, none⟩) := tmp_of ((hoth 1 (by decide)).trans rfl)
      clear hoth hdeps hdf hts ho hgu
      refine wp_via (fun K' hK => ?_)
      have HK := Lib.hid hK
      clear hK
      go_simp
      exact HK.out _ _ ⟨_, rfl, hg, Kept.refl _ _, rfl⟩
    · obtain rfl := Option.some.inj ho
      obtain rfl := Option.some.inj hd
      have e0 : a'.tmps.getD 12 undef = .pointer (some ⟨cb, 1, none⟩) := hdeps 8 (by decide) 12 rfl (fun h => hgu rfl)
      have c9 := (HC.out _ hg).2.2.2
      clear hoth hdeps hdf hts ho hgu
      refine wp_via (fun K' hK => ?_)
      have HK := Lib.hid hK
      clear hK
      go_simp
      exact HK.out _ _ ⟨_, rfl, hg, Kept.refl _ _, rfl⟩
    · obtain rfl := Option.some.inj ho
      obtain rfl := Option.some.inj hd
      have e0 : a'.tmps.getD 13 undef = .string c.name := hdeps 9 (by decide) 13 rfl (fun _ => hgu rfl)
      clear hoth hdeps hdf hts ho hgu
      refine wp_via (fun K' hK => ?_)
      have HK := Lib.hid hK
      clear hK
      go_simp
      refine (HG.out wx hg).mono ?_
      rintro e w4 ⟨rfl, hw4⟩
      exact HK.out _ _ ⟨_, rfl, hg.trans hw4, hw4, rfl⟩
    · obtain rfl := Option.some.inj ho
      obtain rfl := Option.some.inj hd
      have e0 : a'.tmps.getD 11 undef = .string y.name := hdeps 7 (by decide) 11 rfl (fun _ => hgu rfl)
      have e1 : a'.tmps.getD 14 undef = .string (sortB c.name) := hdeps 10 (by decide) 14 rfl (fun _ => hgu rfl)
      clear hoth hdeps hdf hts ho hgu
      refine wp_via (fun K' hK => ?_)
      have HK := Lib.hid hK
      clear hK
      go_simp
      exact HK.out _ _ ⟨_, rfl, hg, Kept.refl _ _, rfl⟩
  · intro wx f hg hd
    have e9 : f 9 = .bool (y.key.toList == c.key.toList) := hd 5 9 (by decide) rfl (fun h => by cases h)
    cases hb : (y.key.toList == c.key.toList) with
    | false =>
      rw [hb] at e9 HW
      refine ⟨?_⟩
      rw [show dsts _ 12 = [4, 5, 6, 7, 8, 9, 10, 11, 12, 13, 14, 15] from by kernel_rfl]
      simp only [List.map_cons, List.map_nil, puts, Act.put, e9, List.drop_succ_cons, List.drop_zero]
      generalize f 4 = f4
      generalize f 5 = f5
      generalize f 6 = f6
      generalize f 7 = f7
      generalize f 8 = f8
      generalize f 10 = f10
      generalize f 11 = f11
      generalize f 12 = f12
      generalize f 13 = f13
      generalize f 14 = f14
      generalize f 15 = f15
      simp only [List.setIfInBounds_toArray, List.set_cons_zero, List.set_cons_succ]
      have hkx := hk1.trans hg
      clear hd e9 f hg hk1 hb
      go_wp2_with fail
      go_ret
      exact ⟨by rw [HW.out]; rfl, hkx⟩
    | true =>
      rw [hb] at e9 HW
      have e15 : f 15 = .bool (y.name.toList == (sortB c.name).toList) := hd 11 15 (by decide) rfl (fun _ => e9)
      refine ⟨?_⟩
      rw [show dsts _ 12 = [4, 5, 6, 7, 8, 9, 10, 11, 12, 13, 14, 15] from by kernel_rfl]
      simp only [List.map_cons, List.map_nil, puts, Act.put, e9, e15, List.drop_succ_cons, List.drop_zero]
      generalize f 4 = f4
      generalize f 5 = f5
      generalize f 6 = f6
      generalize f 7 = f7
      generalize f 8 = f8
      generalize f 10 = f10
      generalize f 11 = f11
      generalize f 12 = f12
      generalize f 13 = f13
      generalize f 14 = f14
      simp only [List.setIfInBounds_toArray, List.set_cons_zero, List.set_cons_succ]
      have hkx := hk1.trans hg
      clear hd e9 e15 f hg hk1 hb
      generalize (y.name.toList == (sortB c.name).toList) = b2 at *
      go_wp2_with fail
      go_ret
      exact ⟨by rw [HW.out, Bool.true_and]; rfl, hkx⟩
end Go.Proofs.YtbpbhpmkganefaaGreatDoor
