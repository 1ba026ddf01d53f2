/- The reference's StepsOf and MovesOf. -/
import Derived.Test.YtllkemadaemjeaaGreatDoorDg
namespace Go.Proofs.YtllkemadaemjeaaGreatDoor
open Go.RowKit

theorem stepsG_take (ps : List Pair2) : ∀ (k : Nat) (l away : List ByteArray), (stepsG ps away l).take k = stepsG ps away (l.take k)
  | 0, _, _ => by simp [stepsG]
  | k + 1, [], _ => by simp [stepsG]
  | k + 1, p :: l, away => by simp [stepsG, stepsG_take ps k l]
def StepsOfPost (ss : List ByteArray) (ps : List Pair2) (w : World) (e : Ending) (w' : World) : Prop :=
  ∃ v, e = .returned v ∧ Acc RStep 3 44 (fun k => w.heap.size ≤ k) w.heap.size w' v (stepsG ps [] ss) ∧ All w w'

set_option maxRecDepth 100000 in
set_option maxHeartbeats 6400000 in
theorem stepsOf_any (a : Option Addr) (len cap : Nat) (ss : List ByteArray) (a2 : Option Addr) (l2 c2 : Nat) (ps : List Pair2) (w : World) (hs : Sl RStr 1 (fun _ => True) w a len ss) (hl : len ≤ 1000000) (hp : Sl RPair 2 (fun _ => True) w a2 l2 ps) (hl2 : l2 ≤ 1000000) :
    Calls Tryz.prog 18 #[.slice a len cap, .slice a2 l2 c2] w (StepsOfPost ss ps w) := by
  have Hl1 := Lib.hid hs.len
  have hpl := hp.len
  have HAW := Lib.hid (fun k => awayG_len ps (by omega) (ss.take k) [] (by simp))
  have HLL := Lib.hid (fun p => leav_take_len ps p (by omega))
  have HLV := Lib.hid (fun (wx : World) (k : All w wx) (p : ByteArray) => leavers_any a2 l2 c2 ps p wx (hp.keep RPair.ok k) hl2)
  clear hp hpl
  go_enter Tryz.func18, Tryz.ntmps18
  go_wp2_with fail
  go_loopw [5, 6, 12] (fun v g i wr => ∃ k : Nat, k ≤ len ∧ i = .int .i64 k ∧ (∃ a2 c2, g = .slice a2 (awayG ps [] (ss.take k)).length c2 ∧ Sl RStr 1 (fun _ => True) wr a2 (awayG ps [] (ss.take k)).length (awayG ps [] (ss.take k))) ∧ Acc RStep 3 44 (fun k => w.heap.size ≤ k) w.heap.size wr v (stepsG ps [] (ss.take k)) ∧ All w wr) (fun _ _ i _ => len - (intOf i).toNat)
  case atStart => exact ⟨0, Nat.zero_le _, rfl, ⟨none, 0, rfl, Sl.nil _ _ _ _ _⟩, Acc.nil _ _ _ _ _ _, Kept.refl _ _⟩
  case round =>
    obtain ⟨k, hk, rfl, ⟨a4, c4, rfl, hsv⟩, hacc, hwr⟩ := hrel
    obtain ⟨wo, rfl⟩ : ∃ wo : World, wo = wr := ⟨_, rfl⟩
    have hal := HAW.out k
    obtain ⟨av, cv, rfl, hcv⟩ := hacc.form
    obtain ⟨aw, haw⟩ : ∃ aw, aw = awayG ps [] (ss.take k) := ⟨_, rfl⟩
    obtain ⟨l4, hl4⟩ : ∃ l, l = aw.length := ⟨_, rfl⟩
    obtain ⟨st, hst⟩ : ∃ st, st = stepsG ps [] (ss.take k) := ⟨_, rfl⟩
    obtain ⟨l5, hl5⟩ : ∃ l, l = st.length := ⟨_, rfl⟩
    have HAWE := Lib.hid haw
    have HL4 := Lib.hid hl4
    have HST := Lib.hid hst
    have HL5 := Lib.hid hl5
    have hl5k : l5 ≤ k := by rw [hl5, hst, stepsG_len]; exact List.length_take_le _ _
    rw [← haw, ← hl4] at hsv hal ⊢
    rw [← hst] at hacc hcv ⊢
    rw [← hl5] at hacc hcv ⊢
    clear haw hl4 hst hl5
    by_cases hlt : k < len
    · obtain ⟨b, off, y, ha, -, c0, hz, -, -, htk⟩ := (hs.keep RStr.ok hwr).atStr hlt
      subst ha
      have HN := Lib.hid (steps_next ps htk)
      have hly1 := HLL.out y
      have HLY1 := HLV.out wo hwr y
      obtain ⟨lv, hlv⟩ : ∃ lv, lv = leav ps y := ⟨_, rfl⟩
      have HLVE := Lib.hid hlv
      rw [← hlv] at HLY1 hly1
      have hmb1 : (minusB lv aw).length ≤ 1000000 := Nat.le_trans (minusB_len _ _) hly1
      have hmb2 : (minusB aw lv).length ≤ 1000000 := Nat.le_trans (minusB_len _ _) (by have := HL4.out; omega)
      obtain ⟨ly, hly⟩ : ∃ l, l = lv.length := ⟨_, rfl⟩
      have HLY := Lib.hid hly
      have HL := Lib.hid HLY1
      have hown : ∀ k, (Value.slice av l5 cv).ownBlock = some k → k < wo.heap.size := fun k hk => (hacc.lt k hk).2
      rw [← hly] at hly1
      clear htk hlv HLY1 hly
      go_wp2_with fail
      refine HL.out.mono ?_
      rintro e w3 ⟨p3, c3, rfl, hac3, hw3⟩
      have hs3 := OwnStrs.sl (w := wo) (G := fun k => wo.heap.size ≤ k) hac3 (fun _ h => h)
      rw [← HLY.out] at hs3 ⊢
      have HS3N := Lib.hid hs3
      have HS3 := Lib.hid (hs3.mono RStr.ok (G := fun _ => True) (fun _ _ => trivial))
      have hsv3 := hsv.keep RStr.ok hw3
      clear hac3 hs3 hsv
      go_wp2_with fail
      refine (missing_any p3 ly c3 lv a4 l4 c4 aw _ HS3.out hly1 hsv3 hal).mono ?_
      rintro e w4 ⟨p4, c5, rfl, hac4, hw4⟩
      have hs4 := OwnStrs.sl (w := w3) (G := fun k => wo.heap.size ≤ k) hac4 (fun k hk => Nat.le_trans hw3.size hk)
      obtain ⟨m1, hm1⟩ : ∃ m, m = minusB lv aw := ⟨_, rfl⟩
      obtain ⟨n1, hn1⟩ : ∃ m, m = m1.length := ⟨_, rfl⟩
      have HM1 := Lib.hid hm1
      have HN1 := Lib.hid hn1
      rw [← hm1, ← hn1] at hs4 hmb1 ⊢
      clear hac4 hm1 hn1
      go_wp2_with fail
      refine (missing_any a4 l4 c4 aw p3 ly c3 lv _ (hsv3.keep RStr.ok hw4) hal (HS3.out.keep RStr.ok hw4) hly1).mono ?_
      rintro e w5 ⟨p5, c6, rfl, hac5, hw5⟩
      have hs5 := OwnStrs.sl (w := w4) (G := fun k => wo.heap.size ≤ k) hac5 (fun k hk => Nat.le_trans (hw3.trans hw4).size hk)
      obtain ⟨m2, hm2⟩ : ∃ m, m = minusB aw lv := ⟨_, rfl⟩
      obtain ⟨n2, hn2⟩ : ∃ m, m = m2.length := ⟨_, rfl⟩
      have HM2 := Lib.hid hm2
      have HN2 := Lib.hid hn2
      rw [← hm2, ← hn2] at hs5 hmb2 ⊢
      have hw35 := hw4.trans hw5
      have hk5 := hw3.trans hw35
      have hacc5 := hacc.keepAll RStep.ok hk5
      have hs45 := hs4.keep RStr.ok (Kept.all hw5)
      have hall5 := hwr.trans hk5
      have hS := Lib.hid (HS3N.out.keep RStr.ok (Kept.all hw35))
      have hwrs := hwr.size
      have hk5s := hk5.size
      clear hac5 hm2 hn2 hacc hs4 hsv3 hw4 hw5 hw35 hwr
      go_wp2_with (at_builtin; refine wp_append1 RStep.ok _ rfl _ _ 34 rfl w.heap.size 44 (.agg #[.string ⟨#[]⟩, .slice none 0 0, .slice none 0 0]) 3 64 Tryz.underlying34 (by kernel_rfl) rfl (by decide) (fun k => w.heap.size ≤ k) _ st rfl (hacc5.keepAll RStep.ok (Kept.alloc _ _ _)) ⟨_, 0, none⟩ 1 [.string y, .slice p4 n1 c5, .slice p5 n2 c6] rfl rfl (World.news_of_block (cs := #[.string y, .slice p4 n1 c5, .slice p5 n2 c6]) (heap_alloc_new w5 _)) (by simp [Value.oneCell']) ⟨y, m1, m2⟩ ⟨p4, n1, c5, p5, n2, c6, rfl, hz, hmb1, hmb2, (hs45.keep RStr.ok (Kept.alloc _ _ _)).mono RStr.ok (fun k hk => ⟨by omega, fun e => by have := hown k e; omega⟩), (hs5.keep RStr.ok (Kept.alloc _ _ _)).mono RStr.ok (fun k hk => ⟨by omega, fun e => by have := hown k e; omega⟩)⟩ (by have := HL5.out; omega) (by decide) (by simp; omega) ?_)
      intro p' c' w9 hacc9 hg9 _
      have hk9 : All w w9 := (hall5.then_alloc _).grown hg9 (fun k hk => Or.inl (hacc5.lt k hk).1)
      have hkw9 : Kept (fun k => wo.heap.size ≤ k) w5 w9 := ((Kept.refl _ _).then_alloc _).grown hg9 (fun k hk => Or.inr (fun h => by have := hown k hk; omega))
      have hSy := hS.out
      clear hg9 hacc5 hs45 hs5 hS
      go_wp2_with fail
      go_roundw
      case rel =>
        refine ⟨k + 1, by omega, by go_num, ⟨p3, c3, by rw [HN.out.2, ← HLVE.out, ← HLY.out], ?_⟩, by rw [HN.out.1, ← HAWE.out, ← HST.out, ← HLVE.out, ← HM1.out, ← HM2.out]; exact hacc9, hk9⟩
        rw [HN.out.2, ← HLVE.out, ← HLY.out]
        exact (hSy.keep RStr.ok hkw9).mono RStr.ok (fun _ _ => trivial)
      case measure => simp [intOf]; omega
    · have hd : decide ((k : Int) < (len : Int)) = false := by simp; omega
      have hxe : ss.take k = ss := List.take_of_length_le (by have := Hl1.out; omega)
      have HF := Lib.hid (show stepsG ps [] ss = st by rw [HST.out, hxe])
      clear hxe
      go_wp2_with fail
      go_ret
      exact ⟨_, rfl, by rw [HF.out]; exact hacc, hwr⟩

set_option maxRecDepth 100000 in
set_option maxHeartbeats 6400000 in
theorem movesOf_any (a : Option Addr) (len cap : Nat) (ss : List ByteArray) (a2 : Option Addr) (l2 c2 : Nat) (ps : List Pair2) (w : World) (hs : Sl RStr 1 (fun _ => True) w a len ss) (hl : len ≤ 400) (hp : Sl RPair 2 (fun _ => True) w a2 l2 ps) (hl2 : l2 ≤ 120000) :
    Calls Tryz.prog 16 #[.slice a len cap, .slice a2 l2 c2] w fun e w' => e = .returned (.int .i64 ((movesN ps ss : Nat) : Int)) ∧ All w w' := by
  have Hl1 := Lib.hid hs.len
  have hpl := hp.len
  have HLE := Lib.hid (fun k => show (goneN ((stepsG ps [] ss).take k) ≤ 96000000) from by
    have h1 := goneN_le ps (by omega) (ss.take k) [] (by simp)
    have h2 : (stepsG ps [] ss).take k = stepsG ps [] (ss.take k) := stepsG_take ps k ss []
    rw [h2]
    have h3 : (ss.take k).length * 240000 ≤ 400 * 240000 := Nat.mul_le_mul_right _ (by have h4 := hs.len; have h5 := List.length_take (i := k) (l := ss); omega)
    omega)
  have HSO := Lib.hid (fun (wx : World) (k : All w wx) => stepsOf_any a len cap ss a2 l2 c2 ps wx (hs.keep RStr.ok k) (by omega) (hp.keep RPair.ok k) (by omega))
  have Hstl := Lib.hid (stepsG_len ps ss [])
  obtain ⟨lst, hlst⟩ : ∃ l, l = (awayG ps [] ss).length := ⟨_, rfl⟩
  have HLST := Lib.hid hlst
  have HLL := Lib.hid (fun p => leav_take_len ps p (by omega))
  have hlstb : lst ≤ 1000000 := by rw [hlst]; exact awayG_len ps (by omega) ss [] (by simp)
  clear hlst
  go_enter Tryz.func16, Tryz.ntmps16
  go_upto_if 10 with fail
  go_cut [5] (fun v wx => v = .int .i64 (lst : Int) ∧ All w wx)
  case first =>
    rcases Nat.eq_zero_or_pos len with h0 | h0
    · subst h0
      have hx : ss = [] := List.eq_nil_of_length_eq_zero Hl1.out
      have hl0 : lst = 0 := by rw [HLST.out, hx]; rfl
      subst hl0
      have hd : decide ((0 : Int) < ((0 : Nat) : Int)) = false := by simp
      go_wp2_with fail
      go_meet
      exact ⟨rfl, Kept.refl _ _⟩
    · obtain ⟨kp, rfl⟩ : ∃ kp, len = kp + 1 := ⟨len - 1, by omega⟩
      obtain ⟨b, off, y, ha, -, c0, hz, hy, -, -⟩ := hs.atStr (k := kp) (by omega)
      subst ha
      have hlast : awayG ps [] ss = leav ps y := by
        rw [awayG_last]
        have : ss.getLast? = some y := by
          rw [List.getLast?_eq_getElem?, Hl1.out]
          exact hy
        rw [this]
      have HLA := Lib.hid (leavers_any a2 l2 c2 ps y w hp (by omega))
      have HE := Lib.hid (show (leav ps y).length = lst by rw [HLST.out, hlast])
      have hmi : ((kp + 1 : Nat) : Int) - 1 = (kp : Int) := by omega
      clear hs hp hy hlast
      go_wp2_with fail
      refine HLA.out.mono ?_
      rintro e w2 ⟨p, c, rfl, -, hw2⟩
      rw [HE.out]
      go_wp2_with fail
      go_meet
      exact ⟨rfl, hw2⟩
  case rest =>
    obtain ⟨rfl, hx⟩ := hcut
    obtain ⟨w2, rfl⟩ : ∃ y : World, y = wc := ⟨_, rfl⟩
    clear hs hp
    go_wp2_with fail
    refine (HSO.out _ hx).mono ?_
    rintro e w3 ⟨v, rfl, hacc, hw3⟩
    obtain ⟨sv, scp, rfl, hss⟩ := hacc.sl RStep.ok (by decide) (G := fun _ => True) (fun _ _ => trivial) (fun _ _ => trivial)
    rw [Hstl.out, Hl1.out] at hss ⊢
    obtain ⟨st, hst⟩ : ∃ st, st = stepsG ps [] ss := ⟨_, rfl⟩
    have HST := Lib.hid hst
    rw [← hst] at hss HLE
    clear hst hacc
    go_wp2_with fail
    go_loopw [5, 24] (fun g i wr => ∃ k : Nat, k ≤ len ∧ i = .int .i64 k ∧ g = .int .i64 ((lst + goneN (st.take k) : Nat) : Int) ∧ All w3 wr) (fun _ i _ => len - (intOf i).toNat)
    case atStart => exact ⟨0, Nat.zero_le _, rfl, by simp [goneN], Kept.refl _ _⟩
    case round =>
      obtain ⟨k, hk, rfl, rfl, hwr⟩ := hrel
      obtain ⟨wo, rfl⟩ : ∃ wo : World, wo = wr := ⟨_, rfl⟩
      have hgl := HLE.out k
      by_cases hlt : k < len
      · obtain ⟨b, off, x, a1, n1, c1, a4, n4, c4, ha, q0, q1, q2, hn1, hn4, hsl1, hsl2, -, htk⟩ := (hss.keep RStep.ok hwr).atStep hlt
        subst ha
        have e1 := hsl1.len
        have e2 := hsl2.len
        have HN := Lib.hid (show goneN (st.take (k + 1)) = goneN (st.take k) + (n1 + n4) by rw [htk, goneN_snoc, e1, e2])
        obtain ⟨g0, hg0⟩ : ∃ g, g = goneN (st.take k) := ⟨_, rfl⟩
        have HG := Lib.hid hg0
        rw [← hg0] at hgl ⊢
        have hblk := heap_at wo (.cells #[.string x.paper, .slice a1 n1 c1, .slice a4 n4 c4] 44) _ rfl
        have r1 := cell_at (i := 1) hblk rfl
        have r2 := cell_at (i := 2) hblk rfl
        clear hsl1 hsl2 htk e1 e2 hg0 hblk
        go_wp2_with fail
        go_roundw
        case rel => exact ⟨k + 1, by omega, by go_num, by rw [HN.out, ← HG.out]; go_num, hwr.then_alloc _⟩
        case measure => simp [intOf]; omega
      · have hd : decide ((k : Int) < (len : Int)) = false := by simp; omega
        have hxe : st.take k = st := List.take_of_length_le (by rw [HST.out, Hstl.out, Hl1.out]; omega)
        have HF := Lib.hid (show movesN ps ss = lst + goneN (st.take k) by rw [movesN, hxe, HST.out, HLST.out]; omega)
        clear hxe
        go_wp2_with fail
        go_ret
        exact ⟨ret_int' (by rw [HF.out]), (hx.trans hw3).trans hwr⟩
end Go.Proofs.YtllkemadaemjeaaGreatDoor
