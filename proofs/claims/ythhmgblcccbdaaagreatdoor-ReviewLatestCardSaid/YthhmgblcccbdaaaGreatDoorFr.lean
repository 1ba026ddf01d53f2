/- AnswerLines: what it answers of answers. -/
import Derived.Test.YthhmgblcccbdaaaGreatDoorAa
import Derived.Test.YthhmgblcccbdaaaGreatDoorNb
import Derived.Test.YthhmgblcccbdaaaGreatDoorEz
import Derived.Test.YthhmgblcccbdaaaGreatDoorSv
import Derived.Test.YthhmgblcccbdaaaGreatDoorZm
namespace Go.Proofs.YthhmgblcccbdaaaGreatDoor
open Go.RowKit Go.Shelf
attribute [local go_sem] Oper.semAt_some

def catR (a b : ByteArray) : ByteArray := a ++ b
/-- A string is put behind another one. -/
theorem cat_runR (P : Program) (a b : ByteArray) (h : a.size + b.size ≤ 9223372036854775807) : ∃ t : ByteArray, t = catR a b ∧ t.size = a.size + b.size ∧ ∀ wx : World, (Op.stringOp .add a b).run P wx = .ok (.string t) wx :=
  ⟨_, rfl, ByteArray.size_append, fun wx => run_string_add_sum wx a b h⟩
def litScore : ByteArray := ⟨#[115, 99, 111, 114, 101, 32]⟩
def litChoice : ByteArray := ⟨#[99, 104, 111, 105, 99, 101, 32]⟩
def litWords : ByteArray := ⟨#[119, 111, 114, 100, 115, 32]⟩
def litSp : ByteArray := ⟨#[32]⟩
def litNl : ByteArray := ⟨#[10]⟩
def itoaB (z : Int) : ByteArray := ⟨(Lib.itoa z).toArray⟩
/-- An answer's lines behind what there is. -/
noncomputable def lineA (o : ByteArray) (x : Ans4) : ByteArray :=
  open Classical in
  if x.option ≠ ⟨#[]⟩ then catR o (catR (catR (catR (catR litChoice x.question) litSp) x.option) litNl)
  else if x.words ≠ ⟨#[]⟩ then barsF (catR o (catR (catR (catR (catR litWords x.question) litSp) (itoaB (Lib.countByte x.words.data.toList 10))) litNl)) (linesB x.words)
  else catR o (catR (catR (catR (catR litScore x.question) litSp) (itoaB x.number)) litNl)
/-- Answers' lines. -/
noncomputable def linesF (ys : List Ans4) : ByteArray := ys.foldl lineA ⟨#[]⟩
theorem linesF_succ {ys : List Ans4} {k : Nat} {y : Ans4} (h : ys.take (k + 1) = ys.take k ++ [y]) : linesF (ys.take (k + 1)) = lineA (linesF (ys.take k)) y := by
  rw [h, linesF, List.foldl_append]; rfl
theorem empty_toList {s : ByteArray} (h : s.toList = []) : s = ⟨#[]⟩ := by
  rw [tl_data] at h
  exact ByteArray.ext (Array.eq_empty_of_size_eq_zero (by rw [← Array.length_toList, h]; rfl))
theorem lines_any (s : ByteArray) (w : World) : Calls Tryz.prog 141 #[.string s] w fun e w' => e = .returned (.func (.func 183) #[] #[.pointer (some ⟨w.heap.size, 0, none⟩)]) ∧ w' = w.alloc (.cells #[.string s] 9) := by
  go_enter Tryz.func141, Tryz.ntmps141
  go_wp2_with fail
  go_ret
  exact ⟨rfl, rfl⟩

set_option maxRecDepth 100000 in
set_option maxHeartbeats 6400000 in
theorem answerLines_any (a : Option Addr) (l c : Nat) (ys : List Ans4) (w : World) (hs : Sl RAns 4 (fun _ => True) w a l ys) (hl : l ≤ 1000) (hp : Pow w) :
    Calls Tryz.prog 97 #[.slice a l c] w fun e w' => e = .returned (.string (linesF ys)) ∧ All w w' := by
  have HLEN := Lib.hid hs.len
  have HS := Lib.hid (fun (wx : World) (k : All w wx) => hs.keep RAns.ok k)
  have HP := Lib.hid (fun (wx : World) (k : All w wx) => hp.keep k)
  clear hs hp
  refine (callsIn_wide (n := 0)).1 (callsIn_of_wp_marks Tryz.func97 rfl trivial ((wpIn_wide (n := 0)).2 ?_) rfl)
  simp only [Tryz.ntmps97, List.size_toArray, List.length_cons, List.length_nil, Nat.reduceAdd, Nat.reduceSub, Array.replicate_succ, Array.replicate_zero, List.push_toArray, List.append_toArray, List.nil_append, List.cons_append]
  go_wp2_with fail
  refine wp_loop (fun a' w' => ∃ (k : Nat) (ds : List Deferred) (o : ByteArray) (u5 u6 u9 u10 u11 u12 u13 u14 u15 u16 u17 u18 u19 u20 u21 u22 u23 u24 u25 u26 u27 u28 u29 u30 u31 u32 u33 u34 u35 u36 u37 u38 u39 u40 u41 u42 u43 u44 u45 u46 u47 u48 u49 u50 u51 u52 u53 u54 u55 u56 u57 u58 u59 u60 u61 u62 : Value), k ≤ l ∧ u9 = .int .i64 (k : Int) ∧ o = linesF (ys.take k) ∧ o.size ≤ 5000000 * k ∧ Boxed w' w.heap.size 9 (.string o) ∧ All w w' ∧ Marks (w.heap.size + 1) ds w' ∧ a' = { tmps := #[.slice a l c, undef, .string ⟨#[]⟩, .pointer (some ⟨w.heap.size, 0, none⟩), undef, u5, u6, .slice a l c, .int .i64 l, u9, u10, u11, u12, u13, u14, u15, u16, u17, u18, u19, u20, u21, u22, u23, u24, u25, u26, u27, u28, u29, u30, u31, u32, u33, u34, u35, u36, u37, u38, u39, u40, u41, u42, u43, u44, u45, u46, u47, u48, u49, u50, u51, u52, u53, u54, u55, u56, u57, u58, u59, u60, u61, u62, undef], defers := ds }) (fun a' _ => l - (intOf (a'.tmps.getD 9 undef)).toNat) ?_ ?_
  · exact ⟨0, [], ⟨#[]⟩, _, _, _, _, _, _, _, _, _, _, _, _, _, _, _, _, _, _, _, _, _, _, _, _, _, _, _, _, _, _, _, _, _, _, _, _, _, _, _, _, _, _, _, _, _, _, _, _, _, _, _, _, _, _, _, _, Nat.zero_le _, rfl, rfl, by show 0 ≤ _; omega, Boxed.new w 9 _, Kept.alloc _ _ _, Marks.nil _ _, rfl⟩
  · rintro a' wo ⟨k, ds, o, u5, u6, u9, u10, u11, u12, u13, u14, u15, u16, u17, u18, u19, u20, u21, u22, u23, u24, u25, u26, u27, u28, u29, u30, u31, u32, u33, u34, u35, u36, u37, u38, u39, u40, u41, u42, u43, u44, u45, u46, u47, u48, u49, u50, u51, u52, u53, u54, u55, u56, u57, u58, u59, u60, u61, u62, hk, h9, ho, hoz, hbx, hall, hm, rfl⟩
    subst h9
    have HO := Lib.hid ho
    have HM := Lib.hid hm
    have HBX := Lib.hid hbx
    have HOZ := Lib.hid hoz
    clear ho hm hoz
    by_cases hlt : k < l
    · have hlt' := hlt
      obtain ⟨b, off, ⟨q, z, opt, wds⟩, ha, -, c0, c1, c2, c3, hsm, hy, htk⟩ := (HS.out wo hall).atAns hlt
      subst ha
      dsimp only at c0 c1 c2 c3
      have HY := Lib.hid hy
      have HTK := Lib.hid htk
      obtain ⟨hz1, hz2, hz3, hz4, hz5⟩ := hsm
      dsimp only at hz1 hz2 hz3 hz4 hz5
      clear hy htk
      have hA := heap_at wo (.cells #[.string q, .int .i64 z, .string opt, .string wds] 97) _ rfl
      have hkA : All wo (wo.alloc (.cells #[.string q, .int .i64 z, .string opt, .string wds] 97)) := Kept.alloc _ _ _
      have hbA : Boxed (wo.alloc (.cells #[.string q, .int .i64 z, .string opt, .string wds] 97)) w.heap.size 9 (.string o) := hbx.alloc _
      obtain ⟨ab, hab⟩ : ∃ b, b = wo.heap.size := ⟨_, rfl⟩
      have HAB := Lib.hid hab
      rw [← hab] at hA
      have hob : w.heap.size < ab := by have := hbx.lt; omega
      clear hab hbx
      go_upto_region 6 with fail
      simp only [← HAB.out]
      generalize wo.alloc (.cells #[.string q, .int .i64 z, .string opt, .string wds] 97) = w1 at *
      clear c0 c1 c2 c3
      have HBX1 := Lib.hid hbA
      have q0 := hbA.cell
      have q1 := hbA.frozen
      have c0 := cell_at (i := 0) hA rfl
      have c1 := cell_at (i := 1) hA rfl
      have c2 := cell_at (i := 2) hA rfl
      have c3 := cell_at (i := 3) hA rfl
      have hk1 : All w w1 := hall.trans hkA
      have HP1 := Lib.hid (HP.out w1 hk1)
      have hoz := HOZ.out
      have s1 : (⟨#[32]⟩ : ByteArray).size = 1 := rfl
      have s2 : (⟨#[10]⟩ : ByteArray).size = 1 := rfl
      have s3 : (⟨#[115, 99, 111, 114, 101, 32]⟩ : ByteArray).size = 6 := rfl
      have s4 : (⟨#[119, 111, 114, 100, 115, 32]⟩ : ByteArray).size = 6 := rfl
      have HFIN := Lib.hid (show ∀ (o2 : ByteArray) (ds2 : List Deferred) (W : World), o2 = lineA o ⟨q, z, opt, wds⟩ → o2.size ≤ o.size + 5000000 → Boxed W w.heap.size 9 (.string o2) → Kept (fun j => j ≠ w.heap.size) wo W → Marks (w.heap.size + 1) ds2 W → ∀ v : Value, v = .int .i64 ((k : Int) + 1) → k + 1 ≤ l ∧ v = .int .i64 ((k + 1 : Nat) : Int) ∧ o2 = linesF (ys.take (k + 1)) ∧ o2.size ≤ 5000000 * (k + 1) ∧ Boxed W w.heap.size 9 (.string o2) ∧ All w W ∧ Marks (w.heap.size + 1) ds2 W from fun o2 ds2 W h1 h2 h3 h4 h5 v hv => ⟨by omega, by rw [hv]; push_cast; rfl, by rw [linesF_succ HTK.out, ← HO.out]; exact h1, by omega, h3, hall.trans2 h4 (fun i hi _ => by omega), h5⟩)
      have HKA := Lib.hid hkA
      have HMO := Lib.hid (show ∀ W : World, Kept (fun j => j ≠ w.heap.size) wo W → Marks (w.heap.size + 1) ds W from fun W h => HM.out.keep (fun j hj hd => h.heap hd (by omega)))
      clear hall hk1 hkA
      by_cases hopt : opt = ⟨#[]⟩
      case neg =>
        have h1 : opt.toList.isEmpty = false := by rw [List.isEmpty_eq_false_iff]; intro e; exact hopt (empty_toList e)
        have s0 : (⟨#[99, 104, 111, 105, 99, 101, 32]⟩ : ByteArray).size = 7 := rfl
        obtain ⟨t1, ht1, hz1', r1⟩ := cat_runR Tryz.prog ⟨#[99, 104, 111, 105, 99, 101, 32]⟩ q (by omega)
        obtain ⟨t2, ht2, hz2', r2⟩ := cat_runR Tryz.prog t1 ⟨#[32]⟩ (by omega)
        obtain ⟨t3, ht3, hz3', r3⟩ := cat_runR Tryz.prog t2 opt (by omega)
        obtain ⟨t4, ht4, hz4', r4⟩ := cat_runR Tryz.prog t3 ⟨#[10]⟩ (by omega)
        obtain ⟨t5, ht5, hz5', r5⟩ := cat_runR Tryz.prog o t4 (by omega)
        have HLINE := Lib.hid (show t5 = lineA o ⟨q, z, opt, wds⟩ by rw [lineA, if_pos hopt, ht5, ht4, ht3, ht2, ht1]; rfl)
        have HT5 := Lib.hid (show t5.size ≤ o.size + 5000000 by omega)
        clear ht1 ht2 ht3 ht4 ht5 hz1' hz2' hz3' hz4' hz5'
        go_wp2_with fail
        obtain ⟨g1, g2, g3, g4, g5, g6, g7⟩ := HFIN.out t5 ds _ HLINE.out HT5.out (Boxed.set _ HBX1.out) ((HKA.out.all).then_setCell ⟨w.heap.size, 0, none⟩ (.string t5) (fun h => h rfl)) (HMO.out _ ((HKA.out.all).then_setCell ⟨w.heap.size, 0, none⟩ (.string t5) (fun h => h rfl))) _ rfl
        refine ⟨⟨k + 1, _, _, _, _, _, _, _, _, _, _, _, _, _, _, _, _, _, _, _, _, _, _, _, _, _, _, _, _, _, _, _, _, _, _, _, _, _, _, _, _, _, _, _, _, _, _, _, _, _, _, _, _, _, _, _, _, _, _, g1, g2, g3, g4, g5, g6, g7, rfl⟩, ?_⟩
        show l - (intOf (.int .i64 ((k : Int) + 1))).toNat < l - (intOf (.int .i64 (k : Int))).toNat
        simp only [intOf]
        omega
      case pos =>
        subst hopt
        by_cases hwds : wds = ⟨#[]⟩
        case pos =>
          subst hwds
          have hi1 := itoa_size z (by omega) (by omega)
          obtain ⟨iz, hiz⟩ : ∃ x : ByteArray, x = ⟨(Lib.itoa z).toArray⟩ := ⟨_, rfl⟩
          rw [← hiz] at hi1
          obtain ⟨t1, ht1, hz1', r1⟩ := cat_runR Tryz.prog ⟨#[115, 99, 111, 114, 101, 32]⟩ q (by omega)
          obtain ⟨t2, ht2, hz2', r2⟩ := cat_runR Tryz.prog t1 ⟨#[32]⟩ (by omega)
          obtain ⟨t3, ht3, hz3', r3⟩ := cat_runR Tryz.prog t2 iz (by omega)
          obtain ⟨t4, ht4, hz4', r4⟩ := cat_runR Tryz.prog t3 ⟨#[10]⟩ (by omega)
          obtain ⟨t5, ht5, hz5', r5⟩ := cat_runR Tryz.prog o t4 (by omega)
          have HLINE := Lib.hid (show t5 = lineA o ⟨q, z, ⟨#[]⟩, ⟨#[]⟩⟩ by rw [lineA, if_neg (by simp), if_neg (by simp), ht5, ht4, ht3, ht2, ht1, hiz]; rfl)
          have HT5 := Lib.hid (show t5.size ≤ o.size + 5000000 by omega)
          have HIT := Lib.hid (fun (wx : World) (kx : All w1 wx) => (show Calls Tryz.prog 139 #[.int .i64 z] wx fun e w' => e = .returned (.string iz) ∧ All wx w' from by rw [hiz]; exact itoa_any z (by omega) (by omega) wx (HP1.out.keep kx)))
          have HCL := Lib.hid (fun (wx : World) (kx : All w1 wx) => (⟨kx.heap hbA trivial, kx.heap hA trivial⟩ : wx.heap[w.heap.size]? = _ ∧ wx.heap[ab]? = _))
          clear ht1 ht2 ht3 ht4 ht5 hz1' hz2' hz3' hz4' hz5' hiz hi1
          go_wp2_with fail
          refine wp_region_inv 11 (by kernel_rfl) (by kernel_rfl) (by kernel_rfl) (fun _ wx => All w1 wx)
            (DL [QIs (Value.string o), QIs (Value.pointer (some ⟨ab, 0, none⟩)), QIs (Value.string q), QIs (Value.string t1), QIs (Value.string t2), QIs (Value.pointer (some ⟨ab, 1, none⟩)), QIs (Value.int .i64 z), QIs (Value.string iz), QIs (Value.string t3), QIs (Value.string t4), QIs (Value.string t5)]) All
            (DL.keep (by simp only [List.forall_mem_cons, List.not_mem_nil, false_implies, implies_true, and_true]; exact ⟨QIs.stays _, QIs.stays _, QIs.stays _, QIs.stays _, QIs.stays _, QIs.stays _, QIs.stays _, QIs.stays _, QIs.stays _, QIs.stays _, QIs.stays _⟩)) ?_ ?_ ?_
          · exact Kept.drew _ _
          · intro i o t ho hd hi k' a' wx hk' hg hdf hts hoth hdeps
            have hszx := hg.size
            have hz : i = 0 ∨ i = 1 ∨ i = 2 ∨ i = 3 ∨ i = 4 ∨ i = 5 ∨ i = 6 ∨ i = 7 ∨ i = 8 ∨ i = 9 ∨ i = 10 := by omega
            rcases hz with rfl | rfl | rfl | rfl | rfl | rfl | rfl | rfl | rfl | rfl | rfl
            · obtain rfl := Option.some.inj ho
              obtain rfl := Option.some.inj hd
              have e0 : a'.tmps.getD 3 undef = Value.pointer (some ⟨w.heap.size, 0, none⟩) := tmp_of ((hoth 3 (by decide)).trans rfl)
              have c9 := cell_at (i := 0) (HCL.out wx hg).1 rfl
              clear hoth hdeps hdf hts ho
              refine wp_via (fun K' hK => ?_)
              have HK := Lib.hid hK
              clear hK
              go_simp
              exact HK.out _ _ ⟨_, rfl, hg, Kept.refl _ _, rfl⟩
            · obtain rfl := Option.some.inj ho
              obtain rfl := Option.some.inj hd
              have e0 : a'.tmps.getD 5 undef = Value.pointer (some ⟨ab, 0, none⟩) := tmp_of ((hoth 5 (by decide)).trans rfl)
              clear hoth hdeps hdf hts ho
              refine wp_via (fun K' hK => ?_)
              have HK := Lib.hid hK
              clear hK
              go_simp
              exact HK.out _ _ ⟨_, rfl, hg, Kept.refl _ _, rfl⟩
            · obtain rfl := Option.some.inj ho
              obtain rfl := Option.some.inj hd
              have e0 : a'.tmps.getD 14 undef = Value.pointer (some ⟨ab, 0, none⟩) := hdeps 1 (by decide) 14 rfl
              have c9 := cell_at (i := 0) (HCL.out wx hg).2 rfl
              clear hoth hdeps hdf hts ho
              refine wp_via (fun K' hK => ?_)
              have HK := Lib.hid hK
              clear hK
              go_simp
              exact HK.out _ _ ⟨_, rfl, hg, Kept.refl _ _, rfl⟩
            · obtain rfl := Option.some.inj ho
              obtain rfl := Option.some.inj hd
              have e0 : a'.tmps.getD 15 undef = Value.string q := hdeps 2 (by decide) 15 rfl
              clear hoth hdeps hdf hts ho
              refine wp_via (fun K' hK => ?_)
              have HK := Lib.hid hK
              clear hK
              go_simp
              exact HK.out _ _ ⟨_, rfl, hg, Kept.refl _ _, rfl⟩
            · obtain rfl := Option.some.inj ho
              obtain rfl := Option.some.inj hd
              have e0 : a'.tmps.getD 16 undef = Value.string t1 := hdeps 3 (by decide) 16 rfl
              clear hoth hdeps hdf hts ho
              refine wp_via (fun K' hK => ?_)
              have HK := Lib.hid hK
              clear hK
              go_simp
              exact HK.out _ _ ⟨_, rfl, hg, Kept.refl _ _, rfl⟩
            · obtain rfl := Option.some.inj ho
              obtain rfl := Option.some.inj hd
              have e0 : a'.tmps.getD 5 undef = Value.pointer (some ⟨ab, 0, none⟩) := tmp_of ((hoth 5 (by decide)).trans rfl)
              clear hoth hdeps hdf hts ho
              refine wp_via (fun K' hK => ?_)
              have HK := Lib.hid hK
              clear hK
              go_simp
              exact HK.out _ _ ⟨_, rfl, hg, Kept.refl _ _, rfl⟩
            · obtain rfl := Option.some.inj ho
              obtain rfl := Option.some.inj hd
              have e0 : a'.tmps.getD 18 undef = Value.pointer (some ⟨ab, 1, none⟩) := hdeps 5 (by decide) 18 rfl
              have c9 := cell_at (i := 1) (HCL.out wx hg).2 rfl
              clear hoth hdeps hdf hts ho
              refine wp_via (fun K' hK => ?_)
              have HK := Lib.hid hK
              clear hK
              go_simp
              exact HK.out _ _ ⟨_, rfl, hg, Kept.refl _ _, rfl⟩
            · obtain rfl := Option.some.inj ho
              obtain rfl := Option.some.inj hd
              have e0 : a'.tmps.getD 19 undef = Value.int .i64 z := hdeps 6 (by decide) 19 rfl
              clear hoth hdeps hdf hts ho
              refine wp_via (fun K' hK => ?_)
              have HK := Lib.hid hK
              clear hK
              go_simp
              refine (HIT.out wx hg).mono ?_
              rintro e w4 ⟨rfl, hw4⟩
              exact HK.out _ _ ⟨_, rfl, hg.trans hw4, hw4, rfl⟩
            · obtain rfl := Option.some.inj ho
              obtain rfl := Option.some.inj hd
              have e0 : a'.tmps.getD 17 undef = Value.string t2 := hdeps 4 (by decide) 17 rfl
              have e1 : a'.tmps.getD 20 undef = Value.string iz := hdeps 7 (by decide) 20 rfl
              clear hoth hdeps hdf hts ho
              refine wp_via (fun K' hK => ?_)
              have HK := Lib.hid hK
              clear hK
              go_simp
              exact HK.out _ _ ⟨_, rfl, hg, Kept.refl _ _, rfl⟩
            · obtain rfl := Option.some.inj ho
              obtain rfl := Option.some.inj hd
              have e0 : a'.tmps.getD 21 undef = Value.string t3 := hdeps 8 (by decide) 21 rfl
              clear hoth hdeps hdf hts ho
              refine wp_via (fun K' hK => ?_)
              have HK := Lib.hid hK
              clear hK
              go_simp
              exact HK.out _ _ ⟨_, rfl, hg, Kept.refl _ _, rfl⟩
            · obtain rfl := Option.some.inj ho
              obtain rfl := Option.some.inj hd
              have e0 : a'.tmps.getD 13 undef = Value.string o := hdeps 0 (by decide) 13 rfl
              have e1 : a'.tmps.getD 22 undef = Value.string t4 := hdeps 9 (by decide) 22 rfl
              clear hoth hdeps hdf hts ho
              refine wp_via (fun K' hK => ?_)
              have HK := Lib.hid hK
              clear hK
              go_simp
              exact HK.out _ _ ⟨_, rfl, hg, Kept.refl _ _, rfl⟩
          · intro wx f hg hd
            have e9 : f 23 = Value.string t5 := hd 10 23 (by decide) rfl
            rw [show dsts _ 11 = [13, 14, 15, 16, 17, 18, 19, 20, 21, 22, 23] from by kernel_rfl]
            simp only [List.map_cons, List.map_nil, puts, Act.put, e9, List.drop_succ_cons, List.drop_zero]
            generalize f 13 = f13
            generalize f 14 = f14
            generalize f 15 = f15
            generalize f 16 = f16
            generalize f 17 = f17
            generalize f 18 = f18
            generalize f 19 = f19
            generalize f 20 = f20
            generalize f 21 = f21
            generalize f 22 = f22
            clear hd e9
            simp only [List.setIfInBounds_toArray, List.set_cons_zero, List.set_cons_succ]
            obtain ⟨gb, ga⟩ := HCL.out wx hg
            have gq0 := Boxed.cell gb
            have gq1 := Boxed.frozen gb
            go_wp2_with fail
            obtain ⟨g1, g2, g3, g4, g5, g6, g7⟩ := HFIN.out t5 ds _ HLINE.out HT5.out (Boxed.set _ gb) ((HKA.out.trans hg).all.then_setCell ⟨w.heap.size, 0, none⟩ (.string t5) (fun h => h rfl)) (HMO.out _ ((HKA.out.trans hg).all.then_setCell ⟨w.heap.size, 0, none⟩ (.string t5) (fun h => h rfl))) _ rfl
            refine ⟨⟨k + 1, _, _, _, _, _, _, _, _, _, _, _, _, _, _, _, _, _, _, _, _, _, _, _, _, _, _, _, _, _, _, _, _, _, _, _, _, _, _, _, _, _, _, _, _, _, _, _, _, _, _, _, _, _, _, _, _, _, _, g1, g2, g3, g4, g5, g6, g7, rfl⟩, ?_⟩
            show l - (intOf (.int .i64 ((k : Int) + 1))).toNat < l - (intOf (.int .i64 (k : Int))).toNat
            simp only [intOf]
            omega
        case neg =>
          have h1 : wds.toList.isEmpty = false := by rw [List.isEmpty_eq_false_iff]; intro e; exact hwds (empty_toList e)
          have hi1 := itoa_size (Lib.countByte wds.data.toList 10) (by omega) (by have := List.count_le_length (a := (10 : UInt8)) (l := wds.data.toList); have : wds.data.toList.length = wds.size := rfl; unfold Lib.countByte; omega)
          obtain ⟨cn, hcn⟩ : ∃ x : Int, x = (Lib.countByte wds.data.toList 10 : Nat) := ⟨_, rfl⟩
          have hcn1 : 0 ≤ cn ∧ cn ≤ 1000000 := by have := List.count_le_length (a := (10 : UInt8)) (l := wds.data.toList); have : wds.data.toList.length = wds.size := rfl; unfold Lib.countByte at hcn; omega
          rw [← hcn] at hi1
          obtain ⟨iz, hiz⟩ : ∃ x : ByteArray, x = ⟨(Lib.itoa cn).toArray⟩ := ⟨_, rfl⟩
          rw [← hiz] at hi1
          obtain ⟨t1, ht1, hz1', r1⟩ := cat_runR Tryz.prog ⟨#[119, 111, 114, 100, 115, 32]⟩ q (by omega)
          obtain ⟨t2, ht2, hz2', r2⟩ := cat_runR Tryz.prog t1 ⟨#[32]⟩ (by omega)
          obtain ⟨t3, ht3, hz3', r3⟩ := cat_runR Tryz.prog t2 iz (by omega)
          obtain ⟨t4, ht4, hz4', r4⟩ := cat_runR Tryz.prog t3 ⟨#[10]⟩ (by omega)
          obtain ⟨t5, ht5, hz5', r5⟩ := cat_runR Tryz.prog o t4 (by omega)
          have HLINE := Lib.hid (show barsF t5 (linesB wds) = lineA o ⟨q, z, ⟨#[]⟩, wds⟩ by rw [lineA, if_neg (by simp), if_pos hwds, ht5, ht4, ht3, ht2, ht1, hiz, hcn]; rfl)
          have HT5 := Lib.hid (show t5.size ≤ o.size + 1000100 by omega)
          have HIT := Lib.hid (fun (wx : World) (kx : All w1 wx) => (show Calls Tryz.prog 139 #[.int .i64 cn] wx fun e w' => e = .returned (.string iz) ∧ All wx w' from by rw [hiz]; exact itoa_any cn (by omega) (by omega) wx (HP1.out.keep kx)))
          have HCT := Lib.hid (fun (wx : World) => (show Calls Tryz.prog 140 #[.string wds, .string ⟨#[10]⟩] wx fun e w' => e = .returned (.int .i64 cn) ∧ w' = wx from by rw [hcn]; exact Tryz.strings_Count_one wds 10 wx))
          have HCL := Lib.hid (fun (wx : World) (kx : All w1 wx) => (⟨kx.heap hbA trivial, kx.heap hA trivial⟩ : wx.heap[w.heap.size]? = _ ∧ wx.heap[ab]? = _))
          clear ht1 ht2 ht3 ht4 ht5 hz1' hz2' hz3' hz4' hz5' hiz hi1 hcn
          go_wp2_with fail
          refine wp_region_inv 12 (by kernel_rfl) (by kernel_rfl) (by kernel_rfl) (fun _ wx => All w1 wx)
            (DL [QIs (Value.string o), QIs (Value.pointer (some ⟨ab, 0, none⟩)), QIs (Value.string q), QIs (Value.string t1), QIs (Value.string t2), QIs (Value.pointer (some ⟨ab, 3, none⟩)), QIs (Value.string wds), QIs (Value.int .i64 cn), QIs (Value.string iz), QIs (Value.string t3), QIs (Value.string t4), QIs (Value.string t5)]) All
            (DL.keep (by simp only [List.forall_mem_cons, List.not_mem_nil, false_implies, implies_true, and_true]; exact ⟨QIs.stays _, QIs.stays _, QIs.stays _, QIs.stays _, QIs.stays _, QIs.stays _, QIs.stays _, QIs.stays _, QIs.stays _, QIs.stays _, QIs.stays _, QIs.stays _⟩)) ?_ ?_ ?_
          · exact Kept.drew _ _
          · intro i o t ho hd hi k' a' wx hk' hg hdf hts hoth hdeps
            have hszx := hg.size
            have hz : i = 0 ∨ i = 1 ∨ i = 2 ∨ i = 3 ∨ i = 4 ∨ i = 5 ∨ i = 6 ∨ i = 7 ∨ i = 8 ∨ i = 9 ∨ i = 10 ∨ i = 11 := by omega
            rcases hz with rfl | rfl | rfl | rfl | rfl | rfl | rfl | rfl | rfl | rfl | rfl | rfl
            · obtain rfl := Option.some.inj ho
              obtain rfl := Option.some.inj hd
              have e0 : a'.tmps.getD 3 undef = Value.pointer (some ⟨w.heap.size, 0, none⟩) := tmp_of ((hoth 3 (by decide)).trans rfl)
              have c9 := cell_at (i := 0) (HCL.out wx hg).1 rfl
              clear hoth hdeps hdf hts ho
              refine wp_via (fun K' hK => ?_)
              have HK := Lib.hid hK
              clear hK
              go_simp
              exact HK.out _ _ ⟨_, rfl, hg, Kept.refl _ _, rfl⟩
            · obtain rfl := Option.some.inj ho
              obtain rfl := Option.some.inj hd
              have e0 : a'.tmps.getD 5 undef = Value.pointer (some ⟨ab, 0, none⟩) := tmp_of ((hoth 5 (by decide)).trans rfl)
              clear hoth hdeps hdf hts ho
              refine wp_via (fun K' hK => ?_)
              have HK := Lib.hid hK
              clear hK
              go_simp
              exact HK.out _ _ ⟨_, rfl, hg, Kept.refl _ _, rfl⟩
            · obtain rfl := Option.some.inj ho
              obtain rfl := Option.some.inj hd
              have e0 : a'.tmps.getD 43 undef = Value.pointer (some ⟨ab, 0, none⟩) := hdeps 1 (by decide) 43 rfl
              have c9 := cell_at (i := 0) (HCL.out wx hg).2 rfl
              clear hoth hdeps hdf hts ho
              refine wp_via (fun K' hK => ?_)
              have HK := Lib.hid hK
              clear hK
              go_simp
              exact HK.out _ _ ⟨_, rfl, hg, Kept.refl _ _, rfl⟩
            · obtain rfl := Option.some.inj ho
              obtain rfl := Option.some.inj hd
              have e0 : a'.tmps.getD 44 undef = Value.string q := hdeps 2 (by decide) 44 rfl
              clear hoth hdeps hdf hts ho
              refine wp_via (fun K' hK => ?_)
              have HK := Lib.hid hK
              clear hK
              go_simp
              exact HK.out _ _ ⟨_, rfl, hg, Kept.refl _ _, rfl⟩
            · obtain rfl := Option.some.inj ho
              obtain rfl := Option.some.inj hd
              have e0 : a'.tmps.getD 45 undef = Value.string t1 := hdeps 3 (by decide) 45 rfl
              clear hoth hdeps hdf hts ho
              refine wp_via (fun K' hK => ?_)
              have HK := Lib.hid hK
              clear hK
              go_simp
              exact HK.out _ _ ⟨_, rfl, hg, Kept.refl _ _, rfl⟩
            · obtain rfl := Option.some.inj ho
              obtain rfl := Option.some.inj hd
              have e0 : a'.tmps.getD 5 undef = Value.pointer (some ⟨ab, 0, none⟩) := tmp_of ((hoth 5 (by decide)).trans rfl)
              clear hoth hdeps hdf hts ho
              refine wp_via (fun K' hK => ?_)
              have HK := Lib.hid hK
              clear hK
              go_simp
              exact HK.out _ _ ⟨_, rfl, hg, Kept.refl _ _, rfl⟩
            · obtain rfl := Option.some.inj ho
              obtain rfl := Option.some.inj hd
              have e0 : a'.tmps.getD 47 undef = Value.pointer (some ⟨ab, 3, none⟩) := hdeps 5 (by decide) 47 rfl
              have c9 := cell_at (i := 3) (HCL.out wx hg).2 rfl
              clear hoth hdeps hdf hts ho
              refine wp_via (fun K' hK => ?_)
              have HK := Lib.hid hK
              clear hK
              go_simp
              exact HK.out _ _ ⟨_, rfl, hg, Kept.refl _ _, rfl⟩
            · obtain rfl := Option.some.inj ho
              obtain rfl := Option.some.inj hd
              have e0 : a'.tmps.getD 48 undef = Value.string wds := hdeps 6 (by decide) 48 rfl
              clear hoth hdeps hdf hts ho
              refine wp_via (fun K' hK => ?_)
              have HK := Lib.hid hK
              clear hK
              go_simp
              refine (HCT.out wx).mono ?_
              rintro e w4 ⟨rfl, rfl⟩
              exact HK.out _ _ ⟨_, rfl, hg, Kept.refl _ _, rfl⟩
            · obtain rfl := Option.some.inj ho
              obtain rfl := Option.some.inj hd
              have e0 : a'.tmps.getD 49 undef = Value.int .i64 cn := hdeps 7 (by decide) 49 rfl
              clear hoth hdeps hdf hts ho
              refine wp_via (fun K' hK => ?_)
              have HK := Lib.hid hK
              clear hK
              go_simp
              refine (HIT.out wx hg).mono ?_
              rintro e w4 ⟨rfl, hw4⟩
              exact HK.out _ _ ⟨_, rfl, hg.trans hw4, hw4, rfl⟩
            · obtain rfl := Option.some.inj ho
              obtain rfl := Option.some.inj hd
              have e0 : a'.tmps.getD 46 undef = Value.string t2 := hdeps 4 (by decide) 46 rfl
              have e1 : a'.tmps.getD 50 undef = Value.string iz := hdeps 8 (by decide) 50 rfl
              clear hoth hdeps hdf hts ho
              refine wp_via (fun K' hK => ?_)
              have HK := Lib.hid hK
              clear hK
              go_simp
              exact HK.out _ _ ⟨_, rfl, hg, Kept.refl _ _, rfl⟩
            · obtain rfl := Option.some.inj ho
              obtain rfl := Option.some.inj hd
              have e0 : a'.tmps.getD 51 undef = Value.string t3 := hdeps 9 (by decide) 51 rfl
              clear hoth hdeps hdf hts ho
              refine wp_via (fun K' hK => ?_)
              have HK := Lib.hid hK
              clear hK
              go_simp
              exact HK.out _ _ ⟨_, rfl, hg, Kept.refl _ _, rfl⟩
            · obtain rfl := Option.some.inj ho
              obtain rfl := Option.some.inj hd
              have e0 : a'.tmps.getD 42 undef = Value.string o := hdeps 0 (by decide) 42 rfl
              have e1 : a'.tmps.getD 52 undef = Value.string t4 := hdeps 10 (by decide) 52 rfl
              clear hoth hdeps hdf hts ho
              refine wp_via (fun K' hK => ?_)
              have HK := Lib.hid hK
              clear hK
              go_simp
              exact HK.out _ _ ⟨_, rfl, hg, Kept.refl _ _, rfl⟩
          · intro wx f hg hd
            have e9 : f 53 = Value.string t5 := hd 11 53 (by decide) rfl
            rw [show dsts _ 12 = [42, 43, 44, 45, 46, 47, 48, 49, 50, 51, 52, 53] from by kernel_rfl]
            simp only [List.map_cons, List.map_nil, puts, Act.put, e9, List.drop_succ_cons, List.drop_zero]
            generalize f 42 = f42
            generalize f 43 = f43
            generalize f 44 = f44
            generalize f 45 = f45
            generalize f 46 = f46
            generalize f 47 = f47
            generalize f 48 = f48
            generalize f 49 = f49
            generalize f 50 = f50
            generalize f 51 = f51
            generalize f 52 = f52
            clear hd e9
            simp only [List.setIfInBounds_toArray, List.set_cons_zero, List.set_cons_succ]
            obtain ⟨gb, ga⟩ := HCL.out wx hg
            have gq0 := Boxed.cell gb
            have gq1 := Boxed.frozen gb
            have gb2 := Boxed.set (.string t5) gb
            have gk2 := ((HKA.out.trans hg).all.then_setCell ⟨w.heap.size, 0, none⟩ (.string t5) (fun h => h rfl) : Kept (fun j => j ≠ w.heap.size) wo _)
            have ga2 : (wx.setCell ⟨w.heap.size, 0, none⟩ (.string t5)).heap[ab]? = _ := (Below.heap_setCell wx ⟨w.heap.size, 0, none⟩ _ ab (by dsimp only; omega)).trans ga
            have gc3 := cell_at (i := 3) ga2 rfl
            clear ga2
            go_wp2_with (go_at_call 141; refine (lines_any _ _).mono ?_; rintro e w' ⟨rfl, rfl⟩)
            have hsz : (wx.setCell ⟨w.heap.size, 0, none⟩ (.string t5)).heap.size = wx.heap.size := by simp
            generalize wx.setCell ⟨w.heap.size, 0, none⟩ (.string t5) = w2 at *
            have gb3 : Boxed (w2.alloc (.cells #[.string wds] 9)) w.heap.size 9 (.string t5) := gb2.alloc _
            have gk3 := gk2.then_alloc (.cells #[.string wds] 9)
            have gB : Boxed (w2.alloc (.cells #[.string wds] 9)) w2.heap.size 9 (.string wds) := Boxed.new _ _ _
            rw [hsz] at gB
            obtain ⟨B, hB⟩ : ∃ x, x = wx.heap.size := ⟨_, rfl⟩
            have hoB : w.heap.size < B := by have := gb2.lt; omega
            have hBw : wo.heap.size ≤ B := by have := gk2.size; omega
            rw [← hB] at gB ⊢
            clear gb2 gk2 gc3 hB hsz
            generalize w2.alloc (.cells #[.string wds] 9) = w3 at *
            have hB3 := gB.lt
            refine wp_rangeFunc_box (gf := 183) (lb := #[.pointer (some ⟨B, 0, none⟩)]) rfl (enters_of Tryz.func183 (by kernel_rfl) rfl) (lines1_box wds hz3 B) gB (fun _ => rfl)
              (fun pre W => Boxed W w.heap.size 9 (.string (barsF t5 pre)) ∧ Kept (fun j => j ≠ w.heap.size ∧ j ≠ B) w3 W) ?_ ?_ ?_ ⟨gb3, Kept.refl _ _⟩ ?a1 ?assign ?body ?done
            · rintro s W W' row ⟨h1, h2⟩ hg hr
              exact ⟨h1.kept hg (fun e => by have := (hr w.heap.size e.symm).1; omega), h2.grown hg (fun j hj => .inl (hr j hj).1)⟩
            · rintro pre W u ⟨h1, h2⟩
              exact ⟨h1.other (by omega) u, h2.then_setCell _ _ (fun h => h.2 rfl)⟩
            · rintro pre W ⟨h1, h2⟩
              exact ⟨h1, h2.then_drew⟩
            case assign =>
              intro l' x W K hK
              gi_wp2
              exact hK
            case body =>
              rintro l' pre x W hpx ⟨h1, h2⟩
              have b1 := barsF_prefix (o := t5) hpx
              rw [barsF_snoc, ByteArray.size_append, ByteArray.size_append] at b1
              have HT := HT5.out
              have s5 : (⟨#[124]⟩ : ByteArray).size = 1 := rfl
              have b2 : ¬ 9223372036854775807 < (barsF t5 pre).size + (1 + x.size) := by omega
              have b3 : ¬ 9223372036854775807 < 1 + x.size := by omega
              have v0 := h1.cell
              have v1 := h1.frozen
              gi_wp2
              exact ⟨(KeepsOthers.setCell _ _ _).from _, Below.heap_setCell _ _ _ _ (by dsimp only; omega), by rw [barsF_snoc]; exact Boxed.set _ h1, h2.then_setCell _ _ (fun h => h.1 rfl)⟩
            case done =>
              rintro D W hD ⟨h1, h2⟩ hKD
              have b1 := barsF_prefix (o := t5) (List.prefix_refl (linesB wds))
              have hm3 := HMO.out w3 gk3
              have hm4 := hm3.cons (D := D) (W' := W) hD (fun j hj hd => h2.heap hd ⟨by omega, fun e => by subst e; rw [show w3.heap[j]? = _ from gB] at hd; cases hd⟩) (by omega) hKD
              have HT := HT5.out
              go_wp2_with fail
              obtain ⟨g1, g2, g3, g4, g5, g6, g7⟩ := HFIN.out (barsF t5 (linesB wds)) ({ target := .collected D, args := #[] } :: ds) _ HLINE.out (by omega) h1 (gk3.trans2 h2 (fun j hj hne => ⟨hne, fun e => by have := gk3.size; omega⟩)) hm4 _ rfl
              refine ⟨⟨k + 1, _, _, _, _, _, _, _, _, _, _, _, _, _, _, _, _, _, _, _, _, _, _, _, _, _, _, _, _, _, _, _, _, _, _, _, _, _, _, _, _, _, _, _, _, _, _, _, _, _, _, _, _, _, _, _, _, _, _, g1, g2, g3, g4, g5, g6, g7, rfl⟩, ?_⟩
              show l - (intOf (.int .i64 ((k : Int) + 1))).toNat < l - (intOf (.int .i64 (k : Int))).toNat
              simp only [intOf]
              omega
    · have hdl : decide ((k : Int) < (l : Int)) = false := by simp; omega
      have hkl : k = l := by omega
      have q0 := HBX.out.cell
      go_wp2_with fail
      refine leaves_marks (B := w.heap.size + 1) (v := .string o) (Nat.le_succ _) (fun W => results_tmp (fn := Tryz.f97) (t := 2) rfl _ _ W) (fun W hW => ⟨?_, hW⟩) ds wo HM.out hall
      rw [HO.out, List.take_of_length_le (by have := HLEN.out; omega)]
end Go.Proofs.YthhmgblcccbdaaaGreatDoor
