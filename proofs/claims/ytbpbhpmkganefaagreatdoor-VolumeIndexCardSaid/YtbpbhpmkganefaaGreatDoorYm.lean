/- Two indexes of the same entries are equal. -/
import Derived.Test.YtbpbhpmkganefaaGreatDoorYp
import Derived.Test.YtbpbhpmkganefaaGreatDoorUi
namespace Go.Proofs.YtbpbhpmkganefaaGreatDoor
open Go.RowKit

set_option maxRecDepth 100000 in
set_option maxHeartbeats 3200000 in
theorem sameListed_true (x y : Lst3) (zs : List Int) (w : World) (hk : kOf x = kOf y) (hx : Sl RInt 1 (fun _ => True) w x.pa x.pl zs) (hy : Sl RInt 1 (fun _ => True) w y.pa y.pl zs) (hl : zs.length ≤ 1000000) :
    Calls Tryz.prog 14 #[lstVal x, lstVal y] w fun e w' => e = .returned (.bool true) ∧ All w w' := by
  have hn : x.name = y.name := congrArg Prod.fst hk
  have hkk : x.key = y.key := congrArg Prod.snd hk
  have e1 : (x.name.toList == y.name.toList) = true := by simp [hn]
  have e2 : (x.key.toList == y.key.toList) = true := by simp [hkk]
  have hk1 : All w ((w.alloc (.cells #[.string x.name, .string x.key, .slice x.pa x.pl x.pc] 48)).alloc (.cells #[.string y.name, .string y.key, .slice y.pa y.pl y.pc] 48)) := (Kept.alloc _ _ _).then_alloc _
  have hbx := (Kept.alloc (fun _ => True) (w.alloc (.cells #[.string x.name, .string x.key, .slice x.pa x.pl x.pc] 48)) (.cells #[.string y.name, .string y.key, .slice y.pa y.pl y.pc] 48)).heap (heap_at w (.cells #[.string x.name, .string x.key, .slice x.pa x.pl x.pc] 48) _ rfl) trivial
  have hby := heap_at (w.alloc (.cells #[.string x.name, .string x.key, .slice x.pa x.pl x.pc] 48)) (.cells #[.string y.name, .string y.key, .slice y.pa y.pl y.pc] 48) _ rfl
  obtain ⟨bx, hbxe⟩ : ∃ b, b = w.heap.size := ⟨_, rfl⟩
  have HBX := Lib.hid hbxe
  obtain ⟨yb, hybe⟩ : ∃ b, b = (w.alloc (.cells #[.string x.name, .string x.key, .slice x.pa x.pl x.pc] 48)).heap.size := ⟨_, rfl⟩
  have HYX := Lib.hid (show yb = bx + 1 by rw [hybe, hbxe]; simp)
  rw [← hbxe] at hbx
  rw [← hybe] at hby
  have x0 := cell_at (i := 0) hbx rfl
  have x1 := cell_at (i := 1) hbx rfl
  have x2 := cell_at (i := 2) hbx rfl
  have y0 := cell_at (i := 0) hby rfl
  have y1 := cell_at (i := 1) hby rfl
  have y2 := cell_at (i := 2) hby rfl
  have hxl := hx.len
  have HE := Lib.hid (equalI_same x.pa x.pl x.pc y.pa y.pl y.pc zs _ (hx.keep RInt.ok hk1) (hy.keep RInt.ok hk1) (by omega))
  clear hbx hby hbxe hybe hx hy hn hkk hk
  go_enter Tryz.func14, Tryz.ntmps14
  go_wp2_with fail
  simp only [← HBX.out]
  simp only [← HYX.out]
  generalize (w.alloc (.cells #[.string x.name, .string x.key, .slice x.pa x.pl x.pc] 48)).alloc (.cells #[.string y.name, .string y.key, .slice y.pa y.pl y.pc] 48) = w1 at *
  go_wp2_with fail
  refine HE.out.mono ?_
  rintro e w' ⟨rfl, hw'⟩
  go_wp2_with fail
  go_ret
  exact ⟨rfl, hk1.trans hw'⟩

/-- Two whole indexes of the same entries: EqualFunc says true. -/
theorem equalIdx_true (es : List Ent) (hes : es.length ≤ 1000000) (p1 : Option Addr) (c1 : Nat) (xs : List Lst3) (p2 : Option Addr) (c2 : Nat) (ys : List Lst3) (w : World) (h1 : IdxOut es w p1 xs.length xs) (h2 : IdxOut es w p2 ys.length ys) :
    Calls Tryz.prog 12 #[.slice p1 xs.length c1, .slice p2 ys.length c2, .func (.func 14) #[] #[]] w fun e w' => e = .returned (.bool true) ∧ All w w' := by
  have hkeys := h1.2.1.keys h2.2.1
  have hlen : ys.length = xs.length := by have := congrArg List.length hkeys; simpa using this.symm
  have hmp : ∀ x ∈ xs, pagesAt es (kOf x) ≠ [] := fun x hx => (h1.2.1.mem (kOf x)).1 ⟨x, hx, rfl⟩
  have hnd : (xs.map kOf).Nodup := by
    refine (List.pairwise_map.2 (h1.2.1.rise.imp fun {a b} hab => ?_))
    intro e
    have := isCmpK.refl (kOf a)
    unfold cfL at hab
    rw [← e] at hab
    omega
  have hxl : xs.length ≤ 1000000 := Nat.le_trans (keys_len hnd hmp) hes
  have HK := Lib.hid (fun (k : Nat) (x y : Lst3) (hx : xs[k]? = some x) (hy : ys[k]? = some y) => (show kOf x = kOf y from by
    have e := congrArg (fun l => l[k]?) hkeys
    simp only [List.getElem?_map, hx, hy, Option.map_some, Option.some.injEq] at e
    exact e))
  have HR1 := Lib.hid h1.2.2
  have HR2 := Lib.hid h2.2.2
  have h1s := h1.1
  have h2s := h2.1
  rw [hlen] at h2s
  rw [hlen]
  obtain ⟨n, hn⟩ : ∃ n, n = xs.length := ⟨_, rfl⟩
  rw [← hn] at h1s h2s hxl ⊢
  clear h1 h2 hkeys hlen hmp hnd hn
  have HS := Lib.hid (fun (k : Nat) (x y : Lst3) (hx : xs[k]? = some x) (hy : ys[k]? = some y) (wx : World) (kx : All w wx) => (show Calls Tryz.prog 14 #[lstVal x, lstVal y] wx fun e w' => e = .returned (.bool true) ∧ All wx w' from by
    have hk := HK.out k x y hx hy
    have a1 := (HR1.out x (List.mem_of_getElem? hx)).2
    have a2 := (HR2.out y (List.mem_of_getElem? hy)).2
    rw [← hk] at a2
    exact sameListed_true x y _ wx hk (a1.keep RInt.ok kx) (a2.keep RInt.ok kx) (Nat.le_trans (pagesAt_len es _) hes)))
  have hne : ((n : Int) != (n : Int)) = false := by simp
  go_enter Tryz.func12, Tryz.ntmps12
  go_wp2_with fail
  go_loopw [17] (fun i wr => ∃ k : Nat, k ≤ n ∧ i = .int .i64 k ∧ All w wr) (fun i _ => n - (intOf i).toNat)
  case atStart => exact ⟨0, Nat.zero_le _, rfl, Kept.refl _ _⟩
  case round =>
    obtain ⟨k, hk, rfl, hwr⟩ := hrel
    obtain ⟨wo, rfl⟩ : ∃ wo : World, wo = wr := ⟨_, rfl⟩
    by_cases hlt : k < n
    · obtain ⟨b, o, x, ha, -, p0, p1', p2', hx, -⟩ := (h1s.keep RLst.ok hwr).atLst hlt
      subst ha
      obtain ⟨b2, o2, y, ha2, -, q0, q1, q2, hy, -⟩ := (h2s.keep RLst.ok hwr).atLst hlt
      subst ha2
      have hk1 : All wo ((wo.alloc (.cells #[.string x.name, .string x.key, .slice x.pa x.pl x.pc] 48)).alloc (.cells #[.string y.name, .string y.key, .slice y.pa y.pl y.pc] 48)) := (Kept.alloc _ _ _).then_alloc _
      have hbx := (Kept.alloc (fun _ => True) (wo.alloc (.cells #[.string x.name, .string x.key, .slice x.pa x.pl x.pc] 48)) (.cells #[.string y.name, .string y.key, .slice y.pa y.pl y.pc] 48)).heap (heap_at wo (.cells #[.string x.name, .string x.key, .slice x.pa x.pl x.pc] 48) _ rfl) trivial
      have hby := heap_at (wo.alloc (.cells #[.string x.name, .string x.key, .slice x.pa x.pl x.pc] 48)) (.cells #[.string y.name, .string y.key, .slice y.pa y.pl y.pc] 48) _ rfl
      obtain ⟨bx, hbxe⟩ : ∃ b, b = wo.heap.size := ⟨_, rfl⟩
      have HBX := Lib.hid hbxe
      obtain ⟨yb, hybe⟩ : ∃ b, b = (wo.alloc (.cells #[.string x.name, .string x.key, .slice x.pa x.pl x.pc] 48)).heap.size := ⟨_, rfl⟩
      have HYX := Lib.hid (show yb = bx + 1 by rw [hybe, hbxe]; simp)
      rw [← hbxe] at hbx
      rw [← hybe] at hby
      have x0 := cell_at (i := 0) hbx rfl
      have x1 := cell_at (i := 1) hbx rfl
      have x2 := cell_at (i := 2) hbx rfl
      have y0 := cell_at (i := 0) hby rfl
      have y1 := cell_at (i := 1) hby rfl
      have y2 := cell_at (i := 2) hby rfl
      have HE := Lib.hid (fun wx kx => HS.out k x y hx hy wx kx)
      have r0 := (Kept.alloc (fun _ => True) wo (.cells #[.string x.name, .string x.key, .slice x.pa x.pl x.pc] 48)).cell q0 trivial
      have r1 := (Kept.alloc (fun _ => True) wo (.cells #[.string x.name, .string x.key, .slice x.pa x.pl x.pc] 48)).cell q1 trivial
      have r2 := (Kept.alloc (fun _ => True) wo (.cells #[.string x.name, .string x.key, .slice x.pa x.pl x.pc] 48)).cell q2 trivial
      clear hbx hby hbxe hybe hx hy
      go_upto_region 7 with fail
      simp only [← HBX.out]
      simp only [← HYX.out]
      generalize (wo.alloc (.cells #[.string x.name, .string x.key, .slice x.pa x.pl x.pc] 48)).alloc (.cells #[.string y.name, .string y.key, .slice y.pa y.pl y.pc] 48) = w1 at *
      clear p0 p1' p2' q0 q1 q2 r0 r1 r2
      go_wp2_with fail
      refine (HE.out _ (hwr.trans hk1)).mono ?_
      rintro e w' ⟨rfl, hw'⟩
      go_wp2_with fail
      go_roundw
      case rel => exact ⟨k + 1, by omega, by go_num, (hwr.trans hk1).trans hw'⟩
      case measure => simp [intOf]; omega
    · have hd : decide ((k : Int) < (n : Int)) = false := by simp; omega
      go_wp2_with fail
      go_ret
      exact ⟨rfl, hwr⟩
end Go.Proofs.YtbpbhpmkganefaaGreatDoor
