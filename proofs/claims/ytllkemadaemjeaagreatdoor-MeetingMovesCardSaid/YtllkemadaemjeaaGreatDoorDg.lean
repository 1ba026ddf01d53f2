/- Steps; the reference's StepsOf and MovesOf. -/
import Derived.Test.YtllkemadaemjeaaGreatDoorDf
import Derived.Test.YtllkemadaemjeaaGreatDoorZi
namespace Go.Proofs.YtllkemadaemjeaaGreatDoor
open Go.RowKit

/-- The value is a slice that reads so, in blocks from B on. -/
def PSs (B : Nat) (ss : List ByteArray) (v : Value) (w : World) : Prop := ∃ p c, v = .slice p ss.length c ∧ Sl RStr 1 (fun k => B ≤ k) w p ss.length ss
theorem PSs.stays (B : Nat) (ss : List ByteArray) : Stays All (PSs B ss) := fun _ _ _ k ⟨p, c, h1, h2⟩ => ⟨p, c, h1, h2.keep RStr.ok (Kept.all k)⟩
/-- The value is a step that reads so. -/
def PStepV (B : Nat) (y : ByteArray) (m1 m2 : List ByteArray) (v : Value) (w : World) : Prop := ∃ p q p' q', v = .agg #[.string y, .slice p m1.length q, .slice p' m2.length q'] ∧ Sl RStr 1 (fun k => B ≤ k) w p m1.length m1 ∧ Sl RStr 1 (fun k => B ≤ k) w p' m2.length m2
theorem PStepV.stays (B : Nat) (y : ByteArray) (m1 m2 : List ByteArray) : Stays All (PStepV B y m1 m2) := fun _ _ _ k ⟨p, q, p', q', h1, h2, h3⟩ => ⟨p, q, p', q', h1, h2.keep RStr.ok (Kept.all k), h3.keep RStr.ok (Kept.all k)⟩
/-- The value is a slice of one step that reads so. -/
def PStepRow (B : Nat) (y : ByteArray) (m1 m2 : List ByteArray) (v : Value) (w : World) : Prop := ∃ b p q p' q', v = .slice (some ⟨b, 0, none⟩) 1 1 ∧ w.heap[b]? = some (.cells #[.string y, .slice p m1.length q, .slice p' m2.length q'] 44 (0, 0)) ∧ Sl RStr 1 (fun k => B ≤ k) w p m1.length m1 ∧ Sl RStr 1 (fun k => B ≤ k) w p' m2.length m2
theorem PStepRow.stays (B : Nat) (y : ByteArray) (m1 m2 : List ByteArray) : Stays All (PStepRow B y m1 m2) := fun _ _ _ k ⟨b, p, q, p', q', h1, h0, h2, h3⟩ => ⟨b, p, q, p', q', h1, k.heap h0 trivial, h2.keep RStr.ok (Kept.all k), h3.keep RStr.ok (Kept.all k)⟩
theorem PIs.staysAll (u : Value) : Stays All (PIs u) := fun _ _ _ _ h => h
theorem stepsG_len (ps : List Pair2) : ∀ (l away : List ByteArray), (stepsG ps away l).length = l.length
  | [], _ => rfl
  | p :: l, away => by simp [stepsG, stepsG_len ps l]
theorem steps_next (ps : List Pair2) {ss : List ByteArray} {k : Nat} {y : ByteArray} (h : ss.take (k + 1) = ss.take k ++ [y]) :
    stepsG ps [] (ss.take (k + 1)) = stepsG ps [] (ss.take k) ++ [⟨y, minusB (leav ps y) (awayG ps [] (ss.take k)), minusB (awayG ps [] (ss.take k)) (leav ps y)⟩] ∧ awayG ps [] (ss.take (k + 1)) = leav ps y := by
  rw [h, stepsG_snoc, awayG_snoc]
  exact ⟨rfl, rfl⟩
def StepsPost (ss : List ByteArray) (ps : List Pair2) (w : World) (e : Ending) (w' : World) : Prop :=
  (orderE ss ps ≠ 0 → e = .returned (.tuple #[.slice none 0 0, .int .i64 (orderE ss ps)])) ∧ (orderE ss ps = 0 → ∃ v, e = .returned (.tuple #[v, .int .i64 0]) ∧ Acc RStep 3 44 (fun k => w.heap.size ≤ k) w.heap.size w' v (stepsG ps [] ss)) ∧ All w w'

set_option maxRecDepth 100000 in
set_option maxHeartbeats 6400000 in
theorem stepsT_any (a : Option Addr) (len cap : Nat) (ss : List ByteArray) (a2 : Option Addr) (l2 c2 : Nat) (ps : List Pair2) (w : World) (hs : Sl RStr 1 (fun _ => True) w a len ss) (hl : len ≤ 1000000) (hp : Sl RPair 2 (fun _ => True) w a2 l2 ps) (hl2 : l2 ≤ 1000000) :
    Calls Tryz.prog 11 #[.slice a len cap, .slice a2 l2 c2] w (StepsPost ss ps w) := by
  have Hl1 := Lib.hid hs.len
  have Hl2 := Lib.hid hp.len
  have HO := Lib.hid (orderFault_any a len cap ss a2 l2 c2 ps w hs hl hp hl2)
  by_cases h0 : orderE ss ps = 0
  · obtain ⟨z1, z2, z3⟩ := orderE_zero h0
    have HL := Lib.hid (fun (wx : World) (k : All w wx) => leaving_any a2 l2 c2 ps wx (hp.keep RPair.ok k) hl2)
    have HSS := Lib.hid (fun (wx : World) (k : All w wx) => hs.keep RStr.ok k)
    have HAW := Lib.hid (fun k => awayG_len ps (by omega) (ss.take k) [] (by simp))
    have HRI := Lib.hid (fun k => awayG_rises z3 (ss.take k) [] (by simp [RisesB]))
    have HLR := Lib.hid (fun p => leav_rises z3 p)
    have HLL := Lib.hid (fun p => leav_take_len ps p (by omega))
    have H0 := Lib.hid h0
    rw [h0] at HO
    clear hs hp z3 h0
    go_enter Tryz.func11, Tryz.ntmps11
    go_wp2_with fail
    refine HO.out.mono ?_
    rintro e w2 ⟨rfl, hw2⟩
    go_wp2_with fail
    refine (HL.out _ hw2).mono ?_
    rintro e w3 ⟨mb, n, vals, rfl, hm, hw3⟩
    have hk3 := hw2.trans hw3
    have hs3 := HSS.out _ hk3
    clear hw2 hw3
    go_wp2_with fail
    go_loopw [8, 9, 22] (fun g v i wr => ∃ k : Nat, k ≤ len ∧ i = .int .i64 k ∧ (∃ a2 c2, g = .slice a2 (awayG ps [] (ss.take k)).length c2 ∧ Sl RStr 1 (fun j => j < w3.heap.size) wr a2 (awayG ps [] (ss.take k)).length (awayG ps [] (ss.take k))) ∧ Acc RStep 3 44 (fun k => w.heap.size ≤ k) w3.heap.size wr v (stepsG ps [] (ss.take k)) ∧ All w3 wr) (fun _ _ i _ => len - (intOf i).toNat)
    case atStart => exact ⟨0, Nat.zero_le _, rfl, ⟨none, 0, rfl, Sl.nil _ _ _ _ _⟩, Acc.nil _ _ _ _ _ _, Kept.refl _ _⟩
    case round =>
      obtain ⟨k, hk, rfl, ⟨a4, c4, rfl, hsv⟩, hacc, hwr⟩ := hrel
      obtain ⟨wo, rfl⟩ : ∃ wo : World, wo = wr := ⟨_, rfl⟩
      have hal := HAW.out k
      have hri := Lib.hid (HRI.out k)
      obtain ⟨av, cv, rfl, hcv⟩ := hacc.form
      obtain ⟨aw, haw⟩ : ∃ aw, aw = awayG ps [] (ss.take k) := ⟨_, rfl⟩
      obtain ⟨l4, hl4⟩ : ∃ l, l = aw.length := ⟨_, rfl⟩
      obtain ⟨st, hst⟩ : ∃ st, st = stepsG ps [] (ss.take k) := ⟨_, rfl⟩
      obtain ⟨l5, hl5⟩ : ∃ l, l = st.length := ⟨_, rfl⟩
      have HAWE := Lib.hid haw
      have HL4 := Lib.hid hl4
      have HST := Lib.hid hst
      have HL5 := Lib.hid hl5
      have hl5k : l5 ≤ k := by rw [hl5, hst, stepsG_len]; exact List.length_take_le _ _
      rw [← haw] at hri
      rw [← haw, ← hl4] at hsv hal ⊢
      rw [← hst] at hacc hcv ⊢
      rw [← hl5] at hacc hcv ⊢
      clear haw hl4 hst hl5
      by_cases hlt : k < len
      · obtain ⟨b, off, y, ha, -, c0, hz, -, -, htk⟩ := (hs3.keep RStr.ok hwr).atStr hlt
        subst ha
        have HN := Lib.hid (steps_next ps htk)
        obtain ⟨ay, cy, hvy, hsy⟩ := LV.sl hm y
        obtain ⟨ly, hly⟩ : ∃ l, l = (leav ps y).length := ⟨_, rfl⟩
        have HLY := Lib.hid hly
        have hly1 : ly ≤ 1000000 := by rw [hly]; exact HLL.out y
        rw [← hly] at hvy hsy
        have HSN := Lib.hid (((hsy.live RStr.ok (by decide)).mono RStr.ok (G := fun j => j < w3.heap.size) (fun j hj => hj.2)).keep RStr.ok (Kept.all hwr))
        have HSY := Lib.hid (HSN.out.mono RStr.ok (G := fun _ => True) (fun _ _ => trivial))
        have hsvT := hsv.mono RStr.ok (G := fun _ => True) (fun _ _ => trivial)
        have HLK := Lib.hid (fun (wx : World) (k : All w3 wx) => (LV.look (RowM.keep flatStr hm k) y hz).trans (by rw [hvy]))
        have HW1 := Lib.hid (fun (wx : World) (k : All wo wx) => without_any ay ly cy (leav ps y) a4 l4 c4 aw wx (HSY.out.keep RStr.ok k) hly1 (hsvT.keep RStr.ok k) hal hri.out)
        have HW2 := Lib.hid (fun (wx : World) (k : All wo wx) => without_any a4 l4 c4 aw ay ly cy (leav ps y) wx (hsvT.keep RStr.ok k) hal (HSY.out.keep RStr.ok k) hly1 (HLR.out y))
        have hmb1 : (minusB (leav ps y) aw).length ≤ 1000000 := Nat.le_trans (minusB_len _ _) (by have := HLY.out; omega)
        have hmb2 : (minusB aw (leav ps y)).length ≤ 1000000 := Nat.le_trans (minusB_len _ _) (by have := HL4.out; omega)
        obtain ⟨m1, hm1⟩ : ∃ m, m = minusB (leav ps y) aw := ⟨_, rfl⟩
        obtain ⟨m2, hm2⟩ : ∃ m, m = minusB aw (leav ps y) := ⟨_, rfl⟩
        have HM1 := Lib.hid hm1
        have HM2 := Lib.hid hm2
        rw [← hm1] at HW1 hmb1
        rw [← hm2] at HW2 hmb2
        clear htk hvy hsy hly hsv hsvT hm1 hm2
        go_wp2_with fail
        refine wp_region_inv 14 (by kernel_rfl) (by kernel_rfl) (by kernel_rfl) (fun _ wx => All wo wx)
          (DL [PIs (.slice av l5 cv), PIs (.string y), PIs (.map (some mb)), PIs (.string y), PIs (.slice ay ly cy), PIs (.slice a4 l4 c4), PSs wo.heap.size m1, PIs (.slice a4 l4 c4), PIs (.map (some mb)), PIs (.string y), PIs (.slice ay ly cy), PSs wo.heap.size m2, PStepV wo.heap.size y m1 m2, PStepRow wo.heap.size y m1 m2]) All
          (DL.keep (by simp only [List.forall_mem_cons, List.not_mem_nil, false_implies, implies_true, and_true]; exact ⟨PIs.staysAll _, PIs.staysAll _, PIs.staysAll _, PIs.staysAll _, PIs.staysAll _, PIs.staysAll _, PSs.stays _ _, PIs.staysAll _, PIs.staysAll _, PIs.staysAll _, PIs.staysAll _, PSs.stays _ _, PStepV.stays _ _ _ _, PStepRow.stays _ _ _ _⟩)) ?_ ?_ ?_
        · exact Kept.drew _ _
        · intro i o t ho hd hi k' a' wx hk' hg hdf hts hoth hdeps
          have hszx := hg.size
          have hlk := HLK.out wx (hwr.trans hg)
          have h12 : i = 0 ∨ i = 1 ∨ i = 2 ∨ i = 3 ∨ i = 4 ∨ i = 5 ∨ i = 6 ∨ i = 7 ∨ i = 8 ∨ i = 9 ∨ i = 10 ∨ i = 11 ∨ i = 12 ∨ i = 13 := by omega
          rcases h12 with rfl | rfl | rfl | rfl | rfl | rfl | rfl | rfl | rfl | rfl | rfl | rfl | rfl | rfl
          · obtain rfl := Option.some.inj ho
            obtain rfl := Option.some.inj hd
            have e0 : a'.tmps.getD 9 undef = .slice av l5 cv := tmp_of ((hoth 9 (by decide)).trans rfl)
            clear hoth hdeps hdf hts ho
            refine wp_via (fun K' hK => ?_)
            have HK := Lib.hid hK
            clear hK
            go_simp
            exact HK.out _ _ ⟨_, rfl, hg, Kept.refl _ _, rfl⟩
          · obtain rfl := Option.some.inj ho
            obtain rfl := Option.some.inj hd
            have e0 : a'.tmps.getD 11 undef = .string y := tmp_of ((hoth 11 (by decide)).trans rfl)
            clear hoth hdeps hdf hts ho
            refine wp_via (fun K' hK => ?_)
            have HK := Lib.hid hK
            clear hK
            go_simp
            exact HK.out _ _ ⟨_, rfl, hg, Kept.refl _ _, rfl⟩
          · obtain rfl := Option.some.inj ho
            obtain rfl := Option.some.inj hd
            have e0 : a'.tmps.getD 7 undef = .map (some mb) := tmp_of ((hoth 7 (by decide)).trans rfl)
            clear hoth hdeps hdf hts ho
            refine wp_via (fun K' hK => ?_)
            have HK := Lib.hid hK
            clear hK
            go_simp
            exact HK.out _ _ ⟨_, rfl, hg, Kept.refl _ _, rfl⟩
          · obtain rfl := Option.some.inj ho
            obtain rfl := Option.some.inj hd
            have e0 : a'.tmps.getD 11 undef = .string y := tmp_of ((hoth 11 (by decide)).trans rfl)
            clear hoth hdeps hdf hts ho
            refine wp_via (fun K' hK => ?_)
            have HK := Lib.hid hK
            clear hK
            go_simp
            exact HK.out _ _ ⟨_, rfl, hg, Kept.refl _ _, rfl⟩
          · obtain rfl := Option.some.inj ho
            obtain rfl := Option.some.inj hd
            have e0 : a'.tmps.getD 28 undef = .map (some mb) := hdeps 2 (by decide) 28 rfl
            have e1 : a'.tmps.getD 29 undef = .string y := hdeps 3 (by decide) 29 rfl
            clear hoth hdeps hdf hts ho
            refine wp_via (fun K' hK => ?_)
            have HK := Lib.hid hK
            clear hK
            go_simp
            exact HK.out _ _ ⟨_, rfl, hg, Kept.refl _ _, rfl⟩
          · obtain rfl := Option.some.inj ho
            obtain rfl := Option.some.inj hd
            have e0 : a'.tmps.getD 8 undef = .slice a4 l4 c4 := tmp_of ((hoth 8 (by decide)).trans rfl)
            clear hoth hdeps hdf hts ho
            refine wp_via (fun K' hK => ?_)
            have HK := Lib.hid hK
            clear hK
            go_simp
            exact HK.out _ _ ⟨_, rfl, hg, Kept.refl _ _, rfl⟩
          · obtain rfl := Option.some.inj ho
            obtain rfl := Option.some.inj hd
            have e0 : a'.tmps.getD 30 undef = .slice ay ly cy := hdeps 4 (by decide) 30 rfl
            have e1 : a'.tmps.getD 31 undef = .slice a4 l4 c4 := hdeps 5 (by decide) 31 rfl
            clear hoth hdeps hdf hts ho
            refine wp_via (fun K' hK => ?_)
            have HK := Lib.hid hK
            clear hK
            go_simp
            refine (HW1.out wx hg).mono ?_
            rintro e w4 ⟨p, c, rfl, hac, hw4⟩
            exact HK.out _ _ ⟨_, rfl, hg.trans hw4, hw4, ⟨p, c, rfl, OwnStrs.sl hac (fun k hk => Nat.le_trans hszx hk)⟩⟩
          · obtain rfl := Option.some.inj ho
            obtain rfl := Option.some.inj hd
            have e0 : a'.tmps.getD 8 undef = .slice a4 l4 c4 := tmp_of ((hoth 8 (by decide)).trans rfl)
            clear hoth hdeps hdf hts ho
            refine wp_via (fun K' hK => ?_)
            have HK := Lib.hid hK
            clear hK
            go_simp
            exact HK.out _ _ ⟨_, rfl, hg, Kept.refl _ _, rfl⟩
          · obtain rfl := Option.some.inj ho
            obtain rfl := Option.some.inj hd
            have e0 : a'.tmps.getD 7 undef = .map (some mb) := tmp_of ((hoth 7 (by decide)).trans rfl)
            clear hoth hdeps hdf hts ho
            refine wp_via (fun K' hK => ?_)
            have HK := Lib.hid hK
            clear hK
            go_simp
            exact HK.out _ _ ⟨_, rfl, hg, Kept.refl _ _, rfl⟩
          · obtain rfl := Option.some.inj ho
            obtain rfl := Option.some.inj hd
            have e0 : a'.tmps.getD 11 undef = .string y := tmp_of ((hoth 11 (by decide)).trans rfl)
            clear hoth hdeps hdf hts ho
            refine wp_via (fun K' hK => ?_)
            have HK := Lib.hid hK
            clear hK
            go_simp
            exact HK.out _ _ ⟨_, rfl, hg, Kept.refl _ _, rfl⟩
          · obtain rfl := Option.some.inj ho
            obtain rfl := Option.some.inj hd
            have e0 : a'.tmps.getD 34 undef = .map (some mb) := hdeps 8 (by decide) 34 rfl
            have e1 : a'.tmps.getD 35 undef = .string y := hdeps 9 (by decide) 35 rfl
            clear hoth hdeps hdf hts ho
            refine wp_via (fun K' hK => ?_)
            have HK := Lib.hid hK
            clear hK
            go_simp
            exact HK.out _ _ ⟨_, rfl, hg, Kept.refl _ _, rfl⟩
          · obtain rfl := Option.some.inj ho
            obtain rfl := Option.some.inj hd
            have e0 : a'.tmps.getD 33 undef = .slice a4 l4 c4 := hdeps 7 (by decide) 33 rfl
            have e1 : a'.tmps.getD 36 undef = .slice ay ly cy := hdeps 10 (by decide) 36 rfl
            clear hoth hdeps hdf hts ho
            refine wp_via (fun K' hK => ?_)
            have HK := Lib.hid hK
            clear hK
            go_simp
            refine (HW2.out wx hg).mono ?_
            rintro e w4 ⟨p, c, rfl, hac, hw4⟩
            exact HK.out _ _ ⟨_, rfl, hg.trans hw4, hw4, ⟨p, c, rfl, OwnStrs.sl hac (fun k hk => Nat.le_trans hszx hk)⟩⟩
          · obtain rfl := Option.some.inj ho
            obtain rfl := Option.some.inj hd
            have e0 : a'.tmps.getD 27 undef = .string y := hdeps 1 (by decide) 27 rfl
            obtain ⟨p1, q1, e1, hs1⟩ : PSs wo.heap.size m1 (a'.tmps.getD 32 undef) wx := hdeps 6 (by decide) 32 rfl
            obtain ⟨p2, q2, e2, hs2⟩ : PSs wo.heap.size m2 (a'.tmps.getD 37 undef) wx := hdeps 11 (by decide) 37 rfl
            have e0' : a'.tmps[27]?.getD undef = .string y := by rw [← Array.getD_eq_getD_getElem?]; exact e0
            have e1' : a'.tmps[32]?.getD undef = .slice p1 m1.length q1 := by rw [← Array.getD_eq_getD_getElem?]; exact e1
            have e2' : a'.tmps[37]?.getD undef = .slice p2 m2.length q2 := by rw [← Array.getD_eq_getD_getElem?]; exact e2
            clear hoth hdeps hdf hts ho
            refine wp_via (fun K' hK => ?_)
            have HK := Lib.hid hK
            clear hK
            go_simp
            exact HK.out _ _ ⟨_, rfl, hg, Kept.refl _ _, ⟨p1, q1, p2, q2, rfl, hs1, hs2⟩⟩
          · obtain rfl := Option.some.inj ho
            obtain rfl := Option.some.inj hd
            obtain ⟨p1, q1, p2, q2, e1, hs1, hs2⟩ : PStepV wo.heap.size y m1 m2 (a'.tmps.getD 38 undef) wx := hdeps 12 (by decide) 38 rfl
            have e1' : a'.tmps[38]?.getD undef = .agg #[.string y, .slice p1 m1.length q1, .slice p2 m2.length q2] := by rw [← Array.getD_eq_getD_getElem?]; exact e1
            clear hoth hdeps hdf hts ho
            refine wp_via (fun K' hK => ?_)
            have HK := Lib.hid hK
            clear hK
            go_simp
            exact HK.out _ _ ⟨_, rfl, hg.then_alloc _, Kept.alloc _ _ _, ⟨wx.heap.size, p1, q1, p2, q2, rfl, heap_at _ _ _ rfl, hs1.keep RStr.ok (Kept.alloc _ _ _), hs2.keep RStr.ok (Kept.alloc _ _ _)⟩⟩
        · intro wx f hg hd
          have e26 : f 26 = .slice av l5 cv := hd 0 26 (by decide) rfl
          obtain ⟨b9, p1, q1, p2, q2, e39, hb9, hs1, hs2⟩ : PStepRow wo.heap.size y m1 m2 (f 39) wx := hd 13 39 (by decide) rfl
          rw [show dsts _ 14 = [26, 27, 28, 29, 30, 31, 32, 33, 34, 35, 36, 37, 38, 39] from by kernel_rfl]
          simp only [List.map_cons, List.map_nil, puts, Act.put, e26, e39, List.drop_succ_cons, List.drop_zero]
          generalize f 27 = f27
          generalize f 28 = f28
          generalize f 29 = f29
          generalize f 30 = f30
          generalize f 31 = f31
          generalize f 32 = f32
          generalize f 33 = f33
          generalize f 34 = f34
          generalize f 35 = f35
          generalize f 36 = f36
          generalize f 37 = f37
          generalize f 38 = f38
          have hacc2 := hacc.keepAll RStep.ok hg
          have hall2 := hwr.trans hg
          have hown : ∀ k, (Value.slice av l5 cv).ownBlock = some k → k < wo.heap.size := fun k hk => (hacc.lt k hk).2
          have hk3s := hk3.size
          have hwrs := hwr.size
          have hgs := hg.size
          have H9 := Lib.hid hb9
          clear hd e26 e39 hacc hb9
          go_simp
          go_wp2_with (at_builtin; refine wp_append1 RStep.ok _ rfl _ _ 34 rfl w3.heap.size 44 (.agg #[.string ⟨#[]⟩, .slice none 0 0, .slice none 0 0]) 3 64 Tryz.underlying34 (by kernel_rfl) rfl (by decide) (fun k => w.heap.size ≤ k) _ st rfl hacc2 ⟨b9, 0, none⟩ 1 [.string y, .slice p1 m1.length q1, .slice p2 m2.length q2] rfl rfl (World.news_of_block H9.out) (by simp [Value.oneCell']) ⟨y, m1, m2⟩ ⟨p1, m1.length, q1, p2, m2.length, q2, rfl, hz, hmb1, hmb2, hs1.mono RStr.ok (fun k hk => ⟨by omega, fun e => by have := hown k e; omega⟩), hs2.mono RStr.ok (fun k hk => ⟨by omega, fun e => by have := hown k e; omega⟩)⟩ (by have := HL5.out; omega) (by decide) (by omega) ?_)
          intro p' c' w9 hacc9 hg9 _
          have hk9 : All w3 w9 := hall2.grown hg9 (fun k hk => Or.inl (hacc2.lt k hk).1)
          have hkw9 : Kept (fun j => j < w3.heap.size) wo w9 := (Kept.all hg).grown hg9 (fun k hk => Or.inr (fun h => by have := (hacc2.lt k hk).1; omega))
          have l9 := HLK.out _ hk9
          clear hg9 hacc2
          go_wp2_with fail
          go_roundw
          case rel => exact ⟨k + 1, by omega, by go_num, ⟨ay, cy, by rw [HN.out.2, ← HLY.out], by rw [HN.out.2, ← HLY.out]; exact HSN.out.keep RStr.ok hkw9⟩, by rw [HN.out.1, ← HAWE.out, ← HST.out, ← HM1.out, ← HM2.out]; exact hacc9, hk9⟩
          case measure => simp [intOf]; omega
      · have hd : decide ((k : Int) < (len : Int)) = false := by simp; omega
        have hxe : ss.take k = ss := List.take_of_length_le (by have := Hl1.out; omega)
        have HF := Lib.hid (show stepsG ps [] ss = st by rw [HST.out, hxe])
        clear hxe
        go_wp2_with fail
        go_ret2
        exact ⟨fun h => absurd H0.out h, fun _ => ⟨_, rfl, by rw [HF.out]; exact hacc.base0 hk3.size⟩, hk3.trans hwr⟩
  · obtain ⟨er, her⟩ : ∃ er, er = orderE ss ps := ⟨_, rfl⟩
    have HER := Lib.hid her
    rw [← her] at HO h0
    have hne : (er != 0) = true := by simpa using h0
    have H0 := Lib.hid h0
    clear hs hp her h0
    go_enter Tryz.func11, Tryz.ntmps11
    go_wp2_with fail
    refine HO.out.mono ?_
    rintro e w2 ⟨rfl, hw2⟩
    go_wp2_with fail
    go_ret2
    exact ⟨fun _ => by rw [← HER.out]; rfl, fun h => absurd (HER.out.trans h) H0.out, hw2⟩
end Go.Proofs.YtllkemadaemjeaaGreatDoor
