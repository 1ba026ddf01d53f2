/- The order of entries, of the program and of the reference; sorting entries. -/
import Derived.Test.YtbpbhpmkganefaaGreatDoorYg
import Derived.Test.YtbpbhpmkganefaaGreatDoorZm
namespace Go.Proofs.YtbpbhpmkganefaaGreatDoor
open Go.RowKit Go.Sort

/-- The first that is not zero. -/
def orL : List Int → Int
  | [] => 0
  | x :: l => if x ≠ 0 then x else orL l
set_option maxRecDepth 100000 in
set_option maxHeartbeats 3200000 in
theorem orI_any (a : Option Addr) (len cap : Nat) (xs : List Int) (w : World) (hs : Sl RInt 1 (fun _ => True) w a len xs) (hl : len ≤ 1000000) :
    Calls Tryz.prog 29 #[.slice a len cap] w fun e w' => e = .returned (.int .i64 (orL xs)) ∧ w = w' := by
  have Hlen := Lib.hid hs.len
  obtain ⟨r, hr⟩ : ∃ r, r = orL xs := ⟨_, rfl⟩
  have HR := Lib.hid hr
  rw [← hr]
  clear hr
  go_enter Tryz.func29, Tryz.ntmps29
  go_wp2_with fail
  go_loopw [8] (fun i wr => ∃ k : Nat, k ≤ len ∧ i = .int .i64 k ∧ Hid (r = orL (xs.drop k)) ∧ wr = w) (fun i _ => len - (intOf i).toNat)
  case atStart => exact ⟨0, Nat.zero_le _, rfl, HR, rfl⟩
  case round =>
    obtain ⟨k, hk, rfl, HK, rfl⟩ := hrel
    by_cases hlt : k < len
    · obtain ⟨b, o, rfl, -, hc⟩ := hs.ints (by omega)
      have h0 := hc k hlt
      obtain ⟨x, hx⟩ : ∃ x, xs[k]? = some x := ⟨_, List.getElem?_eq_getElem (by have := Hlen.out; omega)⟩
      have hd := drop_at hx
      rw [List.getD_eq_getElem?_getD, hx] at h0
      simp only [Option.getD_some] at h0
      have hdk : decide ((k : Int) < (len : Int)) = true := by simp; omega
      have f1 : (0 : Int) ≤ (k : Int) := by omega
      have f2 : (k : Int) < (len : Int) := by omega
      by_cases hz : x = 0
      · have hne : (x != 0) = false := by simpa using hz
        have HN := Lib.hid (show r = orL (xs.drop (k + 1)) from by rw [HK.out, hd, orL, if_neg (by simp [hz])])
        clear hd hc hx hz
        go_wp2_with fail
        go_roundw
        case rel => exact ⟨k + 1, by omega, by go_num, HN, by trivial⟩
        case measure => simp [intOf]; omega
      · have hne : (x != 0) = true := by simpa using hz
        have HN := Lib.hid (show r = x from by rw [HK.out, hd, orL, if_pos hz])
        clear hd hc hx hz
        go_wp2_with fail
        go_ret
        exact ⟨by rw [HN.out]; rfl, rfl⟩
    · have hdk : decide ((k : Int) < (len : Int)) = false := by simp; omega
      have HN := Lib.hid (show r = 0 from by rw [HK.out, List.drop_of_length_le (by have := Hlen.out; omega)]; rfl)
      go_wp2_with fail
      go_ret
      exact ⟨by rw [HN.out]; rfl, rfl⟩

theorem cmpB3 (a b : ByteArray) : cmpB a b = if Op.bytesLess a.toList b.toList = true then -1 else if Op.bytesLess b.toList a.toList = true then 1 else 0 := by
  unfold cmpB
  cases h1 : Op.bytesLess a.toList b.toList with
  | true => rw [if_pos rfl]; exact cmp_lt h1
  | false =>
    rw [if_neg (by decide)]
    cases h2 : Op.bytesLess b.toList a.toList with
    | true => rw [if_pos rfl]; exact cmp_gt h2
    | false => rw [if_neg (by decide)]; exact cmp_eq h1 h2
theorem cmpB_range (a b : ByteArray) : -1 ≤ cmpB a b ∧ cmpB a b ≤ 1 := by
  rcases cmp_vals a.data.toList b.data.toList with h | h | h <;> simp only [cmpB, h] <;> omega

theorem QIs.staysD (u : Value) : Stays AllD (QIs u) := fun _ _ _ _ h => h
theorem QRow.staysD (cs : Array Value) (T : TypeId) : Stays AllD (QRow cs T) := fun _ _ _ k h => QRow.stays cs T _ _ _ k.1 h
/-- A row of some elements, new. -/
def QRowN (cs : Array Value) (T : TypeId) (n : Nat) (v : Value) (w : World) : Prop := ∃ b, v = .slice (some ⟨b, 0, none⟩) n n ∧ w.heap[b]? = some (.cells cs T (0, 0))
theorem QRowN.staysD (cs : Array Value) (T : TypeId) (n : Nat) : Stays AllD (QRowN cs T n) := fun _ _ _ k ⟨b, h1, h2⟩ => ⟨b, h1, k.1.heap h2 trivial⟩

theorem orL_cf (x y : Lst3) : orL [cmpB (foldB x.name) (foldB y.name), cmpB x.name y.name, cmpB x.key y.key] = cfL x y := by
  have h3 : orL [cmpB x.key y.key] = cmpB x.key y.key := by
    unfold orL
    split
    · rfl
    · rename_i h; unfold orL; omega
  unfold cfL cfK lexC
  rw [orL, orL, h3]
theorem foldB_size (s : ByteArray) : (foldB s).size ≤ s.size := by
  have h1 := foldZ_len (bytesZ s)
  rw [bytesZ_len] at h1
  unfold foldB
  rw [strOfNums_size]
  exact h1
theorem slStr3 {w : World} {b : Nat} {s0 s1 s2 : ByteArray} (h : w.heap[b]? = some (.cells #[.string s0, .string s1, .string s2] 9 (0, 0))) (h0 : s0.size ≤ 1000000) (h1 : s1.size ≤ 1000000) (h2 : s2.size ≤ 1000000) :
    Sl RStr 1 (fun _ => True) w (some ⟨b, 0, none⟩) 3 [s0, s1, s2] := by
  refine Sl.of_strs rfl trivial (fun i hi => ?_) (by simp; omega)
  have h3 : i = 0 ∨ i = 1 ∨ i = 2 := by omega
  rcases h3 with rfl | rfl | rfl
  · exact cell_at h rfl
  · exact cell_at h rfl
  · exact cell_at h rfl

theorem strCmp_any (a b : ByteArray) (w : World) : Calls Tryz.prog 30 #[.string a, .string b] w fun e w' => e = .returned (.int .i64 (cmpB a b)) ∧ AllD w w' := by
  refine (Tryz.strings_Compare a b w).mono ?_
  rintro e w' ⟨rfl, rfl⟩
  exact ⟨rfl, AllD.refl _⟩

set_option maxRecDepth 100000 in
set_option maxHeartbeats 12800000 in
theorem cmpP_any (x y : Lst3) (w : World) :
    Calls Tryz.prog 28 #[lstVal x, lstVal y] w fun e w' => e = .returned (.int .i64 (cfL x y)) ∧ AllD w w' := by
  have hxn := x.hn
  have hxk := x.hk
  have hyn := y.hn
  have hyk := y.hk
  have hk1 : AllD w ((w.alloc (.cells #[.string x.name, .string x.key, .slice x.pa x.pl x.pc] 48)).alloc (.cells #[.string y.name, .string y.key, .slice y.pa y.pl y.pc] 48)) := ((AllD.refl w).then_alloc _).then_alloc _
  have hbx := (Kept.alloc (fun _ => True) (w.alloc (.cells #[.string x.name, .string x.key, .slice x.pa x.pl x.pc] 48)) (.cells #[.string y.name, .string y.key, .slice y.pa y.pl y.pc] 48)).heap (heap_at w (.cells #[.string x.name, .string x.key, .slice x.pa x.pl x.pc] 48) _ rfl) trivial
  have hby := heap_at (w.alloc (.cells #[.string x.name, .string x.key, .slice x.pa x.pl x.pc] 48)) (.cells #[.string y.name, .string y.key, .slice y.pa y.pl y.pc] 48) _ rfl
  obtain ⟨bx, hbx'⟩ : ∃ b, b = w.heap.size := ⟨_, rfl⟩
  obtain ⟨by', hby'⟩ : ∃ b, b = (w.alloc (.cells #[.string x.name, .string x.key, .slice x.pa x.pl x.pc] 48)).heap.size := ⟨_, rfl⟩
  have hyx : by' = bx + 1 := by rw [hby', hbx']; simp
  rw [← hbx'] at hbx
  rw [← hby'] at hby
  have HCbx := Lib.hid (fun (wx : World) (k : All ((w.alloc (.cells #[.string x.name, .string x.key, .slice x.pa x.pl x.pc] 48)).alloc (.cells #[.string y.name, .string y.key, .slice y.pa y.pl y.pc] 48)) wx) => (⟨k.cell (cell_at (i := 0) hbx rfl) trivial, k.cell (cell_at (i := 1) hbx rfl) trivial⟩ : _ ∧ _))
  have HCby' := Lib.hid (fun (wx : World) (k : All ((w.alloc (.cells #[.string x.name, .string x.key, .slice x.pa x.pl x.pc] 48)).alloc (.cells #[.string y.name, .string y.key, .slice y.pa y.pl y.pc] 48)) wx) => (⟨k.cell (cell_at (i := 0) hby rfl) trivial, k.cell (cell_at (i := 1) hby rfl) trivial⟩ : _ ∧ _))
  have HBX := Lib.hid hbx'
  have HYX := Lib.hid hyx
  clear hbx hby hbx' hby' hyx
  have HW := Lib.hid (show orL [cmpB (foldB x.name) (foldB y.name), cmpB x.name y.name, cmpB x.key y.key] = cfL x y from orL_cf x y)
  go_enter Tryz.func28, Tryz.ntmps28
  go_wp2_with fail
  simp only [← HBX.out]
  simp only [← HYX.out]
  generalize (w.alloc (.cells #[.string x.name, .string x.key, .slice x.pa x.pl x.pc] 48)).alloc (.cells #[.string y.name, .string y.key, .slice y.pa y.pl y.pc] 48) = w1 at *
  refine wp_region_inv 19 (by kernel_rfl) (by kernel_rfl) (by kernel_rfl) (fun _ wx => AllD w1 wx)
    (DL [QIs (.pointer (some ⟨bx, 0, none⟩)), QIs (.string x.name), QIs (.string (foldB x.name)), QIs (.pointer (some ⟨by', 0, none⟩)), QIs (.string y.name), QIs (.string (foldB y.name)), QIs (.int .i64 (cmpB (foldB x.name) (foldB y.name))), QIs (.pointer (some ⟨bx, 0, none⟩)), QIs (.string x.name), QIs (.pointer (some ⟨by', 0, none⟩)), QIs (.string y.name), QIs (.int .i64 (cmpB x.name y.name)), QIs (.pointer (some ⟨bx, 1, none⟩)), QIs (.string x.key), QIs (.pointer (some ⟨by', 1, none⟩)), QIs (.string y.key), QIs (.int .i64 (cmpB x.key y.key)), QRowN #[Value.int .i64 (cmpB (foldB x.name) (foldB y.name)), Value.int .i64 (cmpB x.name y.name), Value.int .i64 (cmpB x.key y.key)] 3 3, QIs (.int .i64 (cfL x y))]) AllD
    (DL.keep (by simp only [List.forall_mem_cons, List.not_mem_nil, false_implies, implies_true, and_true]; exact ⟨QIs.staysD _, QIs.staysD _, QIs.staysD _, QIs.staysD _, QIs.staysD _, QIs.staysD _, QIs.staysD _, QIs.staysD _, QIs.staysD _, QIs.staysD _, QIs.staysD _, QIs.staysD _, QIs.staysD _, QIs.staysD _, QIs.staysD _, QIs.staysD _, QIs.staysD _, QRowN.staysD _ _ _, QIs.staysD _⟩)) ?_ ?_ ?_
  · exact (AllD.refl _).then_drew
  · intro i o t ho hd hi k' a' wx hk' hg hdf hts hoth hdeps
    have hz : i = 0 ∨ i = 1 ∨ i = 2 ∨ i = 3 ∨ i = 4 ∨ i = 5 ∨ i = 6 ∨ i = 7 ∨ i = 8 ∨ i = 9 ∨ i = 10 ∨ i = 11 ∨ i = 12 ∨ i = 13 ∨ i = 14 ∨ i = 15 ∨ i = 16 ∨ i = 17 ∨ i = 18 := by omega
    rcases hz with rfl | rfl | rfl | rfl | rfl | rfl | rfl | rfl | rfl | rfl | rfl | rfl | rfl | rfl | rfl | rfl | rfl | rfl | rfl
    · obtain rfl := Option.some.inj ho
      obtain rfl := Option.some.inj hd
      have e0 : a'.tmps.getD 2 undef = .pointer (some ⟨bx, 0, none⟩) := tmp_of ((hoth 2 (by decide)).trans rfl)
      clear hoth hdeps hdf hts ho
      refine wp_via (fun K' hK => ?_)
      have HK := Lib.hid hK
      clear hK
      go_simp
      exact HK.out _ _ ⟨_, rfl, hg, AllD.refl _, rfl⟩
    · obtain rfl := Option.some.inj ho
      obtain rfl := Option.some.inj hd
      have e0 : a'.tmps.getD 5 undef = .pointer (some ⟨bx, 0, none⟩) := hdeps 0 (by decide) 5 rfl
      have c0 := (HCbx.out _ hg.1).1
      clear hoth hdeps hdf hts ho
      refine wp_via (fun K' hK => ?_)
      have HK := Lib.hid hK
      clear hK
      go_simp
      exact HK.out _ _ ⟨_, rfl, hg, AllD.refl _, rfl⟩
    · obtain rfl := Option.some.inj ho
      obtain rfl := Option.some.inj hd
      have e0 : a'.tmps.getD 6 undef = .string x.name := hdeps 1 (by decide) 6 rfl
      clear hoth hdeps hdf hts ho
      refine wp_via (fun K' hK => ?_)
      have HK := Lib.hid hK
      clear hK
      go_simp
      refine (foldP_any x.name _ (by omega)).mono ?_
      rintro e w4 ⟨rfl, hw4⟩
      exact HK.out _ _ ⟨_, rfl, hg.trans hw4, hw4, rfl⟩
    · obtain rfl := Option.some.inj ho
      obtain rfl := Option.some.inj hd
      have e0 : a'.tmps.getD 3 undef = .pointer (some ⟨by', 0, none⟩) := tmp_of ((hoth 3 (by decide)).trans rfl)
      clear hoth hdeps hdf hts ho
      refine wp_via (fun K' hK => ?_)
      have HK := Lib.hid hK
      clear hK
      go_simp
      exact HK.out _ _ ⟨_, rfl, hg, AllD.refl _, rfl⟩
    · obtain rfl := Option.some.inj ho
      obtain rfl := Option.some.inj hd
      have e0 : a'.tmps.getD 8 undef = .pointer (some ⟨by', 0, none⟩) := hdeps 3 (by decide) 8 rfl
      have c0 := (HCby'.out _ hg.1).1
      clear hoth hdeps hdf hts ho
      refine wp_via (fun K' hK => ?_)
      have HK := Lib.hid hK
      clear hK
      go_simp
      exact HK.out _ _ ⟨_, rfl, hg, AllD.refl _, rfl⟩
    · obtain rfl := Option.some.inj ho
      obtain rfl := Option.some.inj hd
      have e0 : a'.tmps.getD 9 undef = .string y.name := hdeps 4 (by decide) 9 rfl
      clear hoth hdeps hdf hts ho
      refine wp_via (fun K' hK => ?_)
      have HK := Lib.hid hK
      clear hK
      go_simp
      refine (foldP_any y.name _ (by omega)).mono ?_
      rintro e w4 ⟨rfl, hw4⟩
      exact HK.out _ _ ⟨_, rfl, hg.trans hw4, hw4, rfl⟩
    · obtain rfl := Option.some.inj ho
      obtain rfl := Option.some.inj hd
      have e0 : a'.tmps.getD 7 undef = .string (foldB x.name) := hdeps 2 (by decide) 7 rfl
      have e1 : a'.tmps.getD 10 undef = .string (foldB y.name) := hdeps 5 (by decide) 10 rfl
      clear hoth hdeps hdf hts ho
      refine wp_via (fun K' hK => ?_)
      have HK := Lib.hid hK
      clear hK
      go_simp
      refine (strCmp_any _ _ _).mono ?_
      rintro e w4 ⟨rfl, hw4⟩
      exact HK.out _ _ ⟨_, rfl, hg.trans hw4, hw4, rfl⟩
    · obtain rfl := Option.some.inj ho
      obtain rfl := Option.some.inj hd
      have e0 : a'.tmps.getD 2 undef = .pointer (some ⟨bx, 0, none⟩) := tmp_of ((hoth 2 (by decide)).trans rfl)
      clear hoth hdeps hdf hts ho
      refine wp_via (fun K' hK => ?_)
      have HK := Lib.hid hK
      clear hK
      go_simp
      exact HK.out _ _ ⟨_, rfl, hg, AllD.refl _, rfl⟩
    · obtain rfl := Option.some.inj ho
      obtain rfl := Option.some.inj hd
      have e0 : a'.tmps.getD 12 undef = .pointer (some ⟨bx, 0, none⟩) := hdeps 7 (by decide) 12 rfl
      have c0 := (HCbx.out _ hg.1).1
      clear hoth hdeps hdf hts ho
      refine wp_via (fun K' hK => ?_)
      have HK := Lib.hid hK
      clear hK
      go_simp
      exact HK.out _ _ ⟨_, rfl, hg, AllD.refl _, rfl⟩
    · obtain rfl := Option.some.inj ho
      obtain rfl := Option.some.inj hd
      have e0 : a'.tmps.getD 3 undef = .pointer (some ⟨by', 0, none⟩) := tmp_of ((hoth 3 (by decide)).trans rfl)
      clear hoth hdeps hdf hts ho
      refine wp_via (fun K' hK => ?_)
      have HK := Lib.hid hK
      clear hK
      go_simp
      exact HK.out _ _ ⟨_, rfl, hg, AllD.refl _, rfl⟩
    · obtain rfl := Option.some.inj ho
      obtain rfl := Option.some.inj hd
      have e0 : a'.tmps.getD 14 undef = .pointer (some ⟨by', 0, none⟩) := hdeps 9 (by decide) 14 rfl
      have c0 := (HCby'.out _ hg.1).1
      clear hoth hdeps hdf hts ho
      refine wp_via (fun K' hK => ?_)
      have HK := Lib.hid hK
      clear hK
      go_simp
      exact HK.out _ _ ⟨_, rfl, hg, AllD.refl _, rfl⟩
    · obtain rfl := Option.some.inj ho
      obtain rfl := Option.some.inj hd
      have e0 : a'.tmps.getD 13 undef = .string x.name := hdeps 8 (by decide) 13 rfl
      have e1 : a'.tmps.getD 15 undef = .string y.name := hdeps 10 (by decide) 15 rfl
      clear hoth hdeps hdf hts ho
      refine wp_via (fun K' hK => ?_)
      have HK := Lib.hid hK
      clear hK
      go_simp
      refine (strCmp_any _ _ _).mono ?_
      rintro e w4 ⟨rfl, hw4⟩
      exact HK.out _ _ ⟨_, rfl, hg.trans hw4, hw4, rfl⟩
    · obtain rfl := Option.some.inj ho
      obtain rfl := Option.some.inj hd
      have e0 : a'.tmps.getD 2 undef = .pointer (some ⟨bx, 0, none⟩) := tmp_of ((hoth 2 (by decide)).trans rfl)
      clear hoth hdeps hdf hts ho
      refine wp_via (fun K' hK => ?_)
      have HK := Lib.hid hK
      clear hK
      go_simp
      exact HK.out _ _ ⟨_, rfl, hg, AllD.refl _, rfl⟩
    · obtain rfl := Option.some.inj ho
      obtain rfl := Option.some.inj hd
      have e0 : a'.tmps.getD 17 undef = .pointer (some ⟨bx, 1, none⟩) := hdeps 12 (by decide) 17 rfl
      have c0 := (HCbx.out _ hg.1).2
      clear hoth hdeps hdf hts ho
      refine wp_via (fun K' hK => ?_)
      have HK := Lib.hid hK
      clear hK
      go_simp
      exact HK.out _ _ ⟨_, rfl, hg, AllD.refl _, rfl⟩
    · obtain rfl := Option.some.inj ho
      obtain rfl := Option.some.inj hd
      have e0 : a'.tmps.getD 3 undef = .pointer (some ⟨by', 0, none⟩) := tmp_of ((hoth 3 (by decide)).trans rfl)
      clear hoth hdeps hdf hts ho
      refine wp_via (fun K' hK => ?_)
      have HK := Lib.hid hK
      clear hK
      go_simp
      exact HK.out _ _ ⟨_, rfl, hg, AllD.refl _, rfl⟩
    · obtain rfl := Option.some.inj ho
      obtain rfl := Option.some.inj hd
      have e0 : a'.tmps.getD 19 undef = .pointer (some ⟨by', 1, none⟩) := hdeps 14 (by decide) 19 rfl
      have c0 := (HCby'.out _ hg.1).2
      clear hoth hdeps hdf hts ho
      refine wp_via (fun K' hK => ?_)
      have HK := Lib.hid hK
      clear hK
      go_simp
      exact HK.out _ _ ⟨_, rfl, hg, AllD.refl _, rfl⟩
    · obtain rfl := Option.some.inj ho
      obtain rfl := Option.some.inj hd
      have e0 : a'.tmps.getD 18 undef = .string x.key := hdeps 13 (by decide) 18 rfl
      have e1 : a'.tmps.getD 20 undef = .string y.key := hdeps 15 (by decide) 20 rfl
      clear hoth hdeps hdf hts ho
      refine wp_via (fun K' hK => ?_)
      have HK := Lib.hid hK
      clear hK
      go_simp
      refine (strCmp_any _ _ _).mono ?_
      rintro e w4 ⟨rfl, hw4⟩
      exact HK.out _ _ ⟨_, rfl, hg.trans hw4, hw4, rfl⟩
    · obtain rfl := Option.some.inj ho
      obtain rfl := Option.some.inj hd
      have e0 : a'.tmps.getD 11 undef = Value.int .i64 (cmpB (foldB x.name) (foldB y.name)) := hdeps 6 (by decide) 11 rfl
      have e0' : a'.tmps[11]?.getD undef = Value.int .i64 (cmpB (foldB x.name) (foldB y.name)) := by rw [← Array.getD_eq_getD_getElem?]; exact e0
      have e1 : a'.tmps.getD 16 undef = Value.int .i64 (cmpB x.name y.name) := hdeps 11 (by decide) 16 rfl
      have e1' : a'.tmps[16]?.getD undef = Value.int .i64 (cmpB x.name y.name) := by rw [← Array.getD_eq_getD_getElem?]; exact e1
      have e2 : a'.tmps.getD 21 undef = Value.int .i64 (cmpB x.key y.key) := hdeps 16 (by decide) 21 rfl
      have e2' : a'.tmps[21]?.getD undef = Value.int .i64 (cmpB x.key y.key) := by rw [← Array.getD_eq_getD_getElem?]; exact e2
      clear hoth hdeps hdf hts ho
      refine wp_via (fun K' hK => ?_)
      have HK := Lib.hid hK
      clear hK
      go_simp
      exact HK.out _ _ ⟨_, rfl, hg.then_alloc _, (AllD.refl _).then_alloc _, ⟨wx.heap.size, rfl, heap_at _ _ _ rfl⟩⟩
    · obtain rfl := Option.some.inj ho
      obtain rfl := Option.some.inj hd
      obtain ⟨b9, e0, hb9⟩ : QRowN #[Value.int .i64 (cmpB (foldB x.name) (foldB y.name)), Value.int .i64 (cmpB x.name y.name), Value.int .i64 (cmpB x.key y.key)] 3 3 (a'.tmps.getD 22 undef) wx := hdeps 17 (by decide) 22 rfl
      have hsl : Sl RInt 1 (fun _ => True) wx (some ⟨b9, 0, none⟩) 3 [cmpB (foldB x.name) (foldB y.name), cmpB x.name y.name, cmpB x.key y.key] := Sl.of_ints rfl trivial (fun i hi => by
        have h3 : i = 0 ∨ i = 1 ∨ i = 2 := by omega
        rcases h3 with rfl | rfl | rfl
        · exact cell_at hb9 rfl
        · exact cell_at hb9 rfl
        · exact cell_at hb9 rfl)
      have HO := Lib.hid (orI_any _ 3 3 _ wx hsl (by decide))
      rw [HW.out] at HO
      clear hb9 hsl
      clear hoth hdeps hdf hts ho
      refine wp_via (fun K' hK => ?_)
      have HK := Lib.hid hK
      clear hK
      go_simp
      refine HO.out.mono ?_
      rintro e w4 ⟨rfl, hw4⟩
      subst hw4
      exact HK.out _ _ ⟨_, rfl, hg, AllD.refl _, rfl⟩
  · intro wx f hg hd
    have e9 : f 23 = .int .i64 (cfL x y) := hd 18 23 (by decide) rfl
    rw [show dsts _ 19 = [5, 6, 7, 8, 9, 10, 11, 12, 13, 14, 15, 16, 17, 18, 19, 20, 21, 22, 23] from by kernel_rfl]
    simp only [List.map_cons, List.map_nil, puts, Act.put, e9, List.drop_succ_cons, List.drop_zero]
    generalize f 5 = f5
    generalize f 6 = f6
    generalize f 7 = f7
    generalize f 8 = f8
    generalize f 9 = f9
    generalize f 10 = f10
    generalize f 11 = f11
    generalize f 12 = f12
    generalize f 13 = f13
    generalize f 14 = f14
    generalize f 15 = f15
    generalize f 16 = f16
    generalize f 17 = f17
    generalize f 18 = f18
    generalize f 19 = f19
    generalize f 20 = f20
    generalize f 21 = f21
    generalize f 22 = f22
    simp only [List.setIfInBounds_toArray, List.set_cons_zero, List.set_cons_succ]
    have hkx := hk1.trans hg
    clear hd e9 f hg hk1
    go_wp2_with fail
    go_ret
    exact ⟨rfl, hkx⟩
    
set_option maxRecDepth 100000 in
set_option maxHeartbeats 12800000 in
theorem cmpR_any (x y : Lst3) (w : World) :
    Calls Tryz.prog 47 #[lstVal x, lstVal y] w fun e w' => e = .returned (.int .i64 (cfL x y)) ∧ AllD w w' := by
  have hxn := x.hn
  have hxk := x.hk
  have hyn := y.hn
  have hyk := y.hk
  have hk1 : AllD w ((w.alloc (.cells #[.string x.name, .string x.key, .slice x.pa x.pl x.pc] 48)).alloc (.cells #[.string y.name, .string y.key, .slice y.pa y.pl y.pc] 48)) := ((AllD.refl w).then_alloc _).then_alloc _
  have hbx := (Kept.alloc (fun _ => True) (w.alloc (.cells #[.string x.name, .string x.key, .slice x.pa x.pl x.pc] 48)) (.cells #[.string y.name, .string y.key, .slice y.pa y.pl y.pc] 48)).heap (heap_at w (.cells #[.string x.name, .string x.key, .slice x.pa x.pl x.pc] 48) _ rfl) trivial
  have hby := heap_at (w.alloc (.cells #[.string x.name, .string x.key, .slice x.pa x.pl x.pc] 48)) (.cells #[.string y.name, .string y.key, .slice y.pa y.pl y.pc] 48) _ rfl
  obtain ⟨bx, hbx'⟩ : ∃ b, b = w.heap.size := ⟨_, rfl⟩
  obtain ⟨by', hby'⟩ : ∃ b, b = (w.alloc (.cells #[.string x.name, .string x.key, .slice x.pa x.pl x.pc] 48)).heap.size := ⟨_, rfl⟩
  have hyx : by' = bx + 1 := by rw [hby', hbx']; simp
  rw [← hbx'] at hbx
  rw [← hby'] at hby
  have HCbx := Lib.hid (fun (wx : World) (k : All ((w.alloc (.cells #[.string x.name, .string x.key, .slice x.pa x.pl x.pc] 48)).alloc (.cells #[.string y.name, .string y.key, .slice y.pa y.pl y.pc] 48)) wx) => (⟨k.cell (cell_at (i := 0) hbx rfl) trivial, k.cell (cell_at (i := 1) hbx rfl) trivial⟩ : _ ∧ _))
  have HCby' := Lib.hid (fun (wx : World) (k : All ((w.alloc (.cells #[.string x.name, .string x.key, .slice x.pa x.pl x.pc] 48)).alloc (.cells #[.string y.name, .string y.key, .slice y.pa y.pl y.pc] 48)) wx) => (⟨k.cell (cell_at (i := 0) hby rfl) trivial, k.cell (cell_at (i := 1) hby rfl) trivial⟩ : _ ∧ _))
  have HBX := Lib.hid hbx'
  have HYX := Lib.hid hyx
  clear hbx hby hbx' hby' hyx
  have HW := Lib.hid (show cmpS [foldB x.name, x.name, x.key] [foldB y.name, y.name, y.key] = cfL x y from cfK_cmpS (kOf x) (kOf y))
  go_enter Tryz.func47, Tryz.ntmps47
  go_wp2_with fail
  simp only [← HBX.out]
  simp only [← HYX.out]
  generalize (w.alloc (.cells #[.string x.name, .string x.key, .slice x.pa x.pl x.pc] 48)).alloc (.cells #[.string y.name, .string y.key, .slice y.pa y.pl y.pc] 48) = w1 at *
  refine wp_region_inv 17 (by kernel_rfl) (by kernel_rfl) (by kernel_rfl) (fun _ wx => AllD w1 wx)
    (DL [QIs (.pointer (some ⟨bx, 0, none⟩)), QIs (.string x.name), QIs (.string (foldB x.name)), QIs (.pointer (some ⟨bx, 0, none⟩)), QIs (.string x.name), QIs (.pointer (some ⟨bx, 1, none⟩)), QIs (.string x.key), QRowN #[Value.string (foldB x.name), Value.string x.name, Value.string x.key] 9 3, QIs (.pointer (some ⟨by', 0, none⟩)), QIs (.string y.name), QIs (.string (foldB y.name)), QIs (.pointer (some ⟨by', 0, none⟩)), QIs (.string y.name), QIs (.pointer (some ⟨by', 1, none⟩)), QIs (.string y.key), QRowN #[Value.string (foldB y.name), Value.string y.name, Value.string y.key] 9 3, QIs (.int .i64 (cfL x y))]) AllD
    (DL.keep (by simp only [List.forall_mem_cons, List.not_mem_nil, false_implies, implies_true, and_true]; exact ⟨QIs.staysD _, QIs.staysD _, QIs.staysD _, QIs.staysD _, QIs.staysD _, QIs.staysD _, QIs.staysD _, QRowN.staysD _ _ _, QIs.staysD _, QIs.staysD _, QIs.staysD _, QIs.staysD _, QIs.staysD _, QIs.staysD _, QIs.staysD _, QRowN.staysD _ _ _, QIs.staysD _⟩)) ?_ ?_ ?_
  · exact (AllD.refl _).then_drew
  · intro i o t ho hd hi k' a' wx hk' hg hdf hts hoth hdeps
    have hz : i = 0 ∨ i = 1 ∨ i = 2 ∨ i = 3 ∨ i = 4 ∨ i = 5 ∨ i = 6 ∨ i = 7 ∨ i = 8 ∨ i = 9 ∨ i = 10 ∨ i = 11 ∨ i = 12 ∨ i = 13 ∨ i = 14 ∨ i = 15 ∨ i = 16 := by omega
    rcases hz with rfl | rfl | rfl | rfl | rfl | rfl | rfl | rfl | rfl | rfl | rfl | rfl | rfl | rfl | rfl | rfl | rfl
    · obtain rfl := Option.some.inj ho
      obtain rfl := Option.some.inj hd
      have e0 : a'.tmps.getD 2 undef = .pointer (some ⟨bx, 0, none⟩) := tmp_of ((hoth 2 (by decide)).trans rfl)
      clear hoth hdeps hdf hts ho
      refine wp_via (fun K' hK => ?_)
      have HK := Lib.hid hK
      clear hK
      go_simp
      exact HK.out _ _ ⟨_, rfl, hg, AllD.refl _, rfl⟩
    · obtain rfl := Option.some.inj ho
      obtain rfl := Option.some.inj hd
      have e0 : a'.tmps.getD 5 undef = .pointer (some ⟨bx, 0, none⟩) := hdeps 0 (by decide) 5 rfl
      have c0 := (HCbx.out _ hg.1).1
      clear hoth hdeps hdf hts ho
      refine wp_via (fun K' hK => ?_)
      have HK := Lib.hid hK
      clear hK
      go_simp
      exact HK.out _ _ ⟨_, rfl, hg, AllD.refl _, rfl⟩
    · obtain rfl := Option.some.inj ho
      obtain rfl := Option.some.inj hd
      have e0 : a'.tmps.getD 6 undef = .string x.name := hdeps 1 (by decide) 6 rfl
      clear hoth hdeps hdf hts ho
      refine wp_via (fun K' hK => ?_)
      have HK := Lib.hid hK
      clear hK
      go_simp
      refine (foldR_any x.name _ (by omega)).mono ?_
      rintro e w4 ⟨rfl, hw4⟩
      exact HK.out _ _ ⟨_, rfl, hg.trans hw4, hw4, rfl⟩
    · obtain rfl := Option.some.inj ho
      obtain rfl := Option.some.inj hd
      have e0 : a'.tmps.getD 2 undef = .pointer (some ⟨bx, 0, none⟩) := tmp_of ((hoth 2 (by decide)).trans rfl)
      clear hoth hdeps hdf hts ho
      refine wp_via (fun K' hK => ?_)
      have HK := Lib.hid hK
      clear hK
      go_simp
      exact HK.out _ _ ⟨_, rfl, hg, AllD.refl _, rfl⟩
    · obtain rfl := Option.some.inj ho
      obtain rfl := Option.some.inj hd
      have e0 : a'.tmps.getD 8 undef = .pointer (some ⟨bx, 0, none⟩) := hdeps 3 (by decide) 8 rfl
      have c0 := (HCbx.out _ hg.1).1
      clear hoth hdeps hdf hts ho
      refine wp_via (fun K' hK => ?_)
      have HK := Lib.hid hK
      clear hK
      go_simp
      exact HK.out _ _ ⟨_, rfl, hg, AllD.refl _, rfl⟩
    · obtain rfl := Option.some.inj ho
      obtain rfl := Option.some.inj hd
      have e0 : a'.tmps.getD 2 undef = .pointer (some ⟨bx, 0, none⟩) := tmp_of ((hoth 2 (by decide)).trans rfl)
      clear hoth hdeps hdf hts ho
      refine wp_via (fun K' hK => ?_)
      have HK := Lib.hid hK
      clear hK
      go_simp
      exact HK.out _ _ ⟨_, rfl, hg, AllD.refl _, rfl⟩
    · obtain rfl := Option.some.inj ho
      obtain rfl := Option.some.inj hd
      have e0 : a'.tmps.getD 10 undef = .pointer (some ⟨bx, 1, none⟩) := hdeps 5 (by decide) 10 rfl
      have c0 := (HCbx.out _ hg.1).2
      clear hoth hdeps hdf hts ho
      refine wp_via (fun K' hK => ?_)
      have HK := Lib.hid hK
      clear hK
      go_simp
      exact HK.out _ _ ⟨_, rfl, hg, AllD.refl _, rfl⟩
    · obtain rfl := Option.some.inj ho
      obtain rfl := Option.some.inj hd
      have e0 : a'.tmps.getD 7 undef = Value.string (foldB x.name) := hdeps 2 (by decide) 7 rfl
      have e0' : a'.tmps[7]?.getD undef = Value.string (foldB x.name) := by rw [← Array.getD_eq_getD_getElem?]; exact e0
      have e1 : a'.tmps.getD 9 undef = Value.string x.name := hdeps 4 (by decide) 9 rfl
      have e1' : a'.tmps[9]?.getD undef = Value.string x.name := by rw [← Array.getD_eq_getD_getElem?]; exact e1
      have e2 : a'.tmps.getD 11 undef = Value.string x.key := hdeps 6 (by decide) 11 rfl
      have e2' : a'.tmps[11]?.getD undef = Value.string x.key := by rw [← Array.getD_eq_getD_getElem?]; exact e2
      clear hoth hdeps hdf hts ho
      refine wp_via (fun K' hK => ?_)
      have HK := Lib.hid hK
      clear hK
      go_simp
      exact HK.out _ _ ⟨_, rfl, hg.then_alloc _, (AllD.refl _).then_alloc _, ⟨wx.heap.size, rfl, heap_at _ _ _ rfl⟩⟩
    · obtain rfl := Option.some.inj ho
      obtain rfl := Option.some.inj hd
      have e0 : a'.tmps.getD 3 undef = .pointer (some ⟨by', 0, none⟩) := tmp_of ((hoth 3 (by decide)).trans rfl)
      clear hoth hdeps hdf hts ho
      refine wp_via (fun K' hK => ?_)
      have HK := Lib.hid hK
      clear hK
      go_simp
      exact HK.out _ _ ⟨_, rfl, hg, AllD.refl _, rfl⟩
    · obtain rfl := Option.some.inj ho
      obtain rfl := Option.some.inj hd
      have e0 : a'.tmps.getD 13 undef = .pointer (some ⟨by', 0, none⟩) := hdeps 8 (by decide) 13 rfl
      have c0 := (HCby'.out _ hg.1).1
      clear hoth hdeps hdf hts ho
      refine wp_via (fun K' hK => ?_)
      have HK := Lib.hid hK
      clear hK
      go_simp
      exact HK.out _ _ ⟨_, rfl, hg, AllD.refl _, rfl⟩
    · obtain rfl := Option.some.inj ho
      obtain rfl := Option.some.inj hd
      have e0 : a'.tmps.getD 14 undef = .string y.name := hdeps 9 (by decide) 14 rfl
      clear hoth hdeps hdf hts ho
      refine wp_via (fun K' hK => ?_)
      have HK := Lib.hid hK
      clear hK
      go_simp
      refine (foldR_any y.name _ (by omega)).mono ?_
      rintro e w4 ⟨rfl, hw4⟩
      exact HK.out _ _ ⟨_, rfl, hg.trans hw4, hw4, rfl⟩
    · obtain rfl := Option.some.inj ho
      obtain rfl := Option.some.inj hd
      have e0 : a'.tmps.getD 3 undef = .pointer (some ⟨by', 0, none⟩) := tmp_of ((hoth 3 (by decide)).trans rfl)
      clear hoth hdeps hdf hts ho
      refine wp_via (fun K' hK => ?_)
      have HK := Lib.hid hK
      clear hK
      go_simp
      exact HK.out _ _ ⟨_, rfl, hg, AllD.refl _, rfl⟩
    · obtain rfl := Option.some.inj ho
      obtain rfl := Option.some.inj hd
      have e0 : a'.tmps.getD 16 undef = .pointer (some ⟨by', 0, none⟩) := hdeps 11 (by decide) 16 rfl
      have c0 := (HCby'.out _ hg.1).1
      clear hoth hdeps hdf hts ho
      refine wp_via (fun K' hK => ?_)
      have HK := Lib.hid hK
      clear hK
      go_simp
      exact HK.out _ _ ⟨_, rfl, hg, AllD.refl _, rfl⟩
    · obtain rfl := Option.some.inj ho
      obtain rfl := Option.some.inj hd
      have e0 : a'.tmps.getD 3 undef = .pointer (some ⟨by', 0, none⟩) := tmp_of ((hoth 3 (by decide)).trans rfl)
      clear hoth hdeps hdf hts ho
      refine wp_via (fun K' hK => ?_)
      have HK := Lib.hid hK
      clear hK
      go_simp
      exact HK.out _ _ ⟨_, rfl, hg, AllD.refl _, rfl⟩
    · obtain rfl := Option.some.inj ho
      obtain rfl := Option.some.inj hd
      have e0 : a'.tmps.getD 18 undef = .pointer (some ⟨by', 1, none⟩) := hdeps 13 (by decide) 18 rfl
      have c0 := (HCby'.out _ hg.1).2
      clear hoth hdeps hdf hts ho
      refine wp_via (fun K' hK => ?_)
      have HK := Lib.hid hK
      clear hK
      go_simp
      exact HK.out _ _ ⟨_, rfl, hg, AllD.refl _, rfl⟩
    · obtain rfl := Option.some.inj ho
      obtain rfl := Option.some.inj hd
      have e0 : a'.tmps.getD 15 undef = Value.string (foldB y.name) := hdeps 10 (by decide) 15 rfl
      have e0' : a'.tmps[15]?.getD undef = Value.string (foldB y.name) := by rw [← Array.getD_eq_getD_getElem?]; exact e0
      have e1 : a'.tmps.getD 17 undef = Value.string y.name := hdeps 12 (by decide) 17 rfl
      have e1' : a'.tmps[17]?.getD undef = Value.string y.name := by rw [← Array.getD_eq_getD_getElem?]; exact e1
      have e2 : a'.tmps.getD 19 undef = Value.string y.key := hdeps 14 (by decide) 19 rfl
      have e2' : a'.tmps[19]?.getD undef = Value.string y.key := by rw [← Array.getD_eq_getD_getElem?]; exact e2
      clear hoth hdeps hdf hts ho
      refine wp_via (fun K' hK => ?_)
      have HK := Lib.hid hK
      clear hK
      go_simp
      exact HK.out _ _ ⟨_, rfl, hg.then_alloc _, (AllD.refl _).then_alloc _, ⟨wx.heap.size, rfl, heap_at _ _ _ rfl⟩⟩
    · obtain rfl := Option.some.inj ho
      obtain rfl := Option.some.inj hd
      obtain ⟨b8, e8, hb8⟩ : QRowN #[Value.string (foldB x.name), Value.string x.name, Value.string x.key] 9 3 (a'.tmps.getD 12 undef) wx := hdeps 7 (by decide) 12 rfl
      have hs8 : Sl RStr 1 (fun _ => True) wx (some ⟨b8, 0, none⟩) 3 [foldB x.name, x.name, x.key] := slStr3 hb8 (by have := foldB_size x.name; omega) (by omega) (by omega)
      obtain ⟨b9, e9, hb9⟩ : QRowN #[Value.string (foldB y.name), Value.string y.name, Value.string y.key] 9 3 (a'.tmps.getD 20 undef) wx := hdeps 15 (by decide) 20 rfl
      have hs9 : Sl RStr 1 (fun _ => True) wx (some ⟨b9, 0, none⟩) 3 [foldB y.name, y.name, y.key] := slStr3 hb9 (by have := foldB_size y.name; omega) (by omega) (by omega)
      have HO := Lib.hid (compareS_any (some ⟨b8, 0, none⟩) 3 3 (some ⟨b9, 0, none⟩) 3 _ _ wx hs8 hs9 (by decide))
      rw [HW.out] at HO
      clear hb8 hb9 hs8 hs9
      clear hoth hdeps hdf hts ho
      refine wp_via (fun K' hK => ?_)
      have HK := Lib.hid hK
      clear hK
      go_simp
      refine HO.out.mono ?_
      rintro e w4 ⟨rfl, hw4⟩
      subst hw4
      exact HK.out _ _ ⟨_, rfl, hg, AllD.refl _, rfl⟩
  · intro wx f hg hd
    have e9 : f 21 = .int .i64 (cfL x y) := hd 16 21 (by decide) rfl
    rw [show dsts _ 17 = [5, 6, 7, 8, 9, 10, 11, 12, 13, 14, 15, 16, 17, 18, 19, 20, 21] from by kernel_rfl]
    simp only [List.map_cons, List.map_nil, puts, Act.put, e9, List.drop_succ_cons, List.drop_zero]
    generalize f 5 = f5
    generalize f 6 = f6
    generalize f 7 = f7
    generalize f 8 = f8
    generalize f 9 = f9
    generalize f 10 = f10
    generalize f 11 = f11
    generalize f 12 = f12
    generalize f 13 = f13
    generalize f 14 = f14
    generalize f 15 = f15
    generalize f 16 = f16
    generalize f 17 = f17
    generalize f 18 = f18
    generalize f 19 = f19
    generalize f 20 = f20
    simp only [List.setIfInBounds_toArray, List.set_cons_zero, List.set_cons_succ]
    have hkx := hk1.trans hg
    clear hd e9 f hg hk1
    go_wp2_with fail
    go_ret
    exact ⟨rfl, hkx⟩
    
end Go.Proofs.YtbpbhpmkganefaaGreatDoor
