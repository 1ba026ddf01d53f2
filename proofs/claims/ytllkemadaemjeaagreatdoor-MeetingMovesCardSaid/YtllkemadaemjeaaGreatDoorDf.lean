/- Steps of a meeting in memory; total, Moves, Steps. -/
import Derived.Test.YtllkemadaemjeaaGreatDoorDc
import Derived.Test.YtllkemadaemjeaaGreatDoorDd
import Derived.Test.YtllkemadaemjeaaGreatDoorDe
namespace Go.Proofs.YtllkemadaemjeaaGreatDoor
open Go.RowKit

def RStep : Rel Step3 := fun F w vs x => ∃ (a : Option Addr) (n c : Nat) (b : Option Addr) (m d : Nat), vs = [.string x.paper, .slice a n c, .slice b m d] ∧ x.paper.size ≤ 1000000 ∧ n ≤ 1000000 ∧ m ≤ 1000000 ∧ Sl RStr 1 F w a n x.leave ∧ Sl RStr 1 F w b m x.enter
theorem RStep.ok : RStep.Ok := by
  refine ⟨?_, ?_, ?_⟩
  · rintro F w w' vs x hk ⟨a, n, c, b, m, d, rfl, h0, h1, h2, h3, h4⟩
    exact ⟨a, n, c, b, m, d, rfl, h0, h1, h2, h3.keep RStr.ok hk, h4.keep RStr.ok hk⟩
  · rintro F G w vs x hk ⟨a, n, c, b, m, d, rfl, h0, h1, h2, h3, h4⟩
    exact ⟨a, n, c, b, m, d, rfl, h0, h1, h2, h3.mono RStr.ok hk, h4.mono RStr.ok hk⟩
  · rintro F w vs x ⟨a, n, c, b, m, d, rfl, h0, h1, h2, h3, h4⟩
    exact ⟨a, n, c, b, m, d, rfl, h0, h1, h2, h3.live RStr.ok (by decide), h4.live RStr.ok (by decide)⟩
theorem Sl.atStep {F : Nat → Prop} {w : World} {a : Option Addr} {len : Nat} {xs : List Step3} (h : Sl RStep 3 F w a len xs) {k : Nat} (hk : k < len) :
    ∃ b off x a1 n1 c1 a2 n2 c2, a = some ⟨b, off, none⟩ ∧ w.cell? ⟨b, off + k * 3, none⟩ = some (.string x.paper) ∧ w.cell? ⟨b, off + k * 3 + 1, none⟩ = some (.slice a1 n1 c1) ∧ w.cell? ⟨b, off + k * 3 + 2, none⟩ = some (.slice a2 n2 c2) ∧ n1 ≤ 1000000 ∧ n2 ≤ 1000000 ∧ Sl RStr 1 F w a1 n1 x.leave ∧ Sl RStr 1 F w a2 n2 x.enter ∧ xs[k]? = some x ∧ xs.take (k + 1) = xs.take k ++ [x] := by
  obtain ⟨b, off, vs, x, ha, hF, h1, h2, ⟨a1, n1, c1, a2, n2, c2, rfl, h3, h4, h5, h6, h7⟩, h8, -, h9⟩ := h.at hk
  exact ⟨b, off, x, a1, n1, c1, a2, n2, c2, ha, h2 0 (by simp), h2 1 (by simp), h2 2 (by simp), h4, h5, h6, h7, h8, h9⟩

theorem leav_take_len (ps : List Pair2) (p : ByteArray) (h : ps.length ≤ 1000000) : (leav ps p).length ≤ 1000000 := Nat.le_trans (leav_len ps p) h
theorem awayG_len (ps : List Pair2) (h : ps.length ≤ 1000000) : ∀ (l away : List ByteArray), away.length ≤ 1000000 → (awayG ps away l).length ≤ 1000000
  | [], _, h0 => h0
  | p :: l, _, _ => awayG_len ps h l _ (leav_take_len ps p h)
theorem awayG_rises {ps : List Pair2} (h : ps.Pairwise ltPP) : ∀ (l away : List ByteArray), RisesB away → RisesB (awayG ps away l)
  | [], _, h0 => h0
  | p :: l, _, _ => awayG_rises h l _ (leav_rises h p)
theorem goneN_le (ps : List Pair2) (h : ps.length ≤ 120000) : ∀ (l away : List ByteArray), away.length ≤ 120000 → goneN (stepsG ps away l) ≤ l.length * 240000
  | [], _, _ => by simp [stepsG, goneN]
  | p :: l, away, h0 => by
    have h1 := goneN_le ps h l (leav ps p) (Nat.le_trans (leav_len ps p) h)
    have h2 := minusB_len (leav ps p) away
    have h3 := minusB_len away (leav ps p)
    have h4 := leav_len ps p
    simp only [stepsG, goneN, List.map_cons, List.sum_cons, List.length_cons] at *
    omega
/-- The string at which a map of rows is looked up reads as its row. -/
theorem LV.sl {w : World} {B mb n : Nat} {vals : ByteArray → Value} {f : ByteArray → List ByteArray} (h : LV w B mb n vals f) (p : ByteArray) : ∃ a c, vals p = .slice a (f p).length c ∧ Sl RStr 1 (fun k => B ≤ k) w a (f p).length (f p) := by
  obtain ⟨a, c, hv, hs⟩ := (h.acc p).sl RStr.ok (by decide) (G := fun k => B ≤ k) (fun _ h => h.elim) (fun k hk => ((h.acc p).lt k hk).1)
  exact ⟨a, c, hv, hs⟩

/-- One round's sum. -/
theorem gone_next (ps : List Pair2) {ss : List ByteArray} {k : Nat} {y : ByteArray} (h : ss.take (k + 1) = ss.take k ++ [y]) :
    goneN (stepsG ps [] (ss.take (k + 1))) = goneN (stepsG ps [] (ss.take k)) + ((minusB (awayG ps [] (ss.take k)) (leav ps y)).length + (minusB (leav ps y) (awayG ps [] (ss.take k))).length) ∧ awayG ps [] (ss.take (k + 1)) = leav ps y := by
  rw [h, stepsG_snoc, goneN_snoc, awayG_snoc]
  exact ⟨by simp only; omega, rfl⟩

set_option maxRecDepth 100000 in
set_option maxHeartbeats 3200000 in
theorem total_any {B mb n : Nat} {vals : ByteArray → Value} (a : Option Addr) (len cap : Nat) (ss : List ByteArray) (ps : List Pair2) (w : World) (hs : Sl RStr 1 (fun _ => True) w a len ss) (hl : len ≤ 400) (hm : LV w B mb n vals (leav ps)) (hpl : ps.length ≤ 120000) (hr : ps.Pairwise ltPP) :
    Calls Tryz.prog 56 #[.slice a len cap, .map (some mb)] w fun e w' => e = .returned (.int .i64 ((movesN ps ss : Nat) : Int)) ∧ All w w' := by
  have Hlen := Lib.hid hs.len
  have HLE := Lib.hid (fun k => show (goneN (stepsG ps [] (ss.take k)) ≤ (ss.take k).length * 240000) from goneN_le ps hpl _ _ (by simp))
  have HAW := Lib.hid (fun k => awayG_len ps (by omega) (ss.take k) [] (by simp))
  have HRI := Lib.hid (fun k => awayG_rises hr (ss.take k) [] (by simp [RisesB]))
  have HLR := Lib.hid (fun p => leav_rises hr p)
  have HLL := Lib.hid (fun p => leav_take_len ps p (by omega))
  clear hr
  go_enter Tryz.func56, Tryz.ntmps56
  go_wp2_with fail
  go_loopw [5, 6, 11] (fun g v i wr => ∃ k : Nat, k ≤ len ∧ i = .int .i64 k ∧ g = .int .i64 ((goneN (stepsG ps [] (ss.take k)) : Nat) : Int) ∧ (∃ a2 c2, v = .slice a2 (awayG ps [] (ss.take k)).length c2 ∧ Sl RStr 1 (fun _ => True) wr a2 (awayG ps [] (ss.take k)).length (awayG ps [] (ss.take k))) ∧ All w wr) (fun _ _ i _ => len - (intOf i).toNat)
  case atStart => exact ⟨0, Nat.zero_le _, rfl, rfl, ⟨none, 0, rfl, Sl.nil _ _ _ _ _⟩, Kept.refl _ _⟩
  case round =>
    obtain ⟨k, hk, rfl, rfl, ⟨a2, c2, rfl, hsv⟩, hwr⟩ := hrel
    obtain ⟨wo, rfl⟩ : ∃ wo : World, wo = wr := ⟨_, rfl⟩
    have hgl := HLE.out k
    have hal := HAW.out k
    have hri := Lib.hid (HRI.out k)
    have htl : (ss.take k).length ≤ k := List.length_take_le _ _
    obtain ⟨g0, hg0⟩ : ∃ g, g = goneN (stepsG ps [] (ss.take k)) := ⟨_, rfl⟩
    obtain ⟨aw, haw⟩ : ∃ aw, aw = awayG ps [] (ss.take k) := ⟨_, rfl⟩
    obtain ⟨l2, hl2⟩ : ∃ l, l = aw.length := ⟨_, rfl⟩
    have HG0 := Lib.hid hg0
    have HAWE := Lib.hid haw
    have HL2 := Lib.hid hl2
    rw [← haw] at hri
    rw [← haw, ← hl2] at hsv hal ⊢
    rw [← hg0] at hgl ⊢
    have hg1 : g0 ≤ 96000000 := by
      have : (ss.take k).length * 240000 ≤ 400 * 240000 := Nat.mul_le_mul_right _ (by omega)
      omega
    clear hg0 haw hl2 hgl htl
    by_cases hlt : k < len
    · obtain ⟨b, off, y, ha, -, c0, hz, -, -, htk⟩ := (hs.keep RStr.ok hwr).atStr hlt
      subst ha
      have HN := Lib.hid (gone_next ps htk)
      have hmo := RowM.keep flatStr hm hwr
      obtain ⟨ay, cy, hvy, hsy⟩ := LV.sl hmo y
      obtain ⟨ly, hly⟩ : ∃ l, l = (leav ps y).length := ⟨_, rfl⟩
      have HLY := Lib.hid hly
      have hly1 : ly ≤ 1000000 := by rw [hly]; exact HLL.out y
      rw [← hly] at hvy hsy
      have HSY := Lib.hid (hsy.mono RStr.ok (G := fun _ => True) (fun _ _ => trivial))
      have HLK := Lib.hid (fun (wx : World) (k : All wo wx) => (LV.look (RowM.keep flatStr hmo k) y hz).trans (by rw [hvy]))
      have HMV := Lib.hid (moves_any a2 l2 c2 aw ay ly cy (leav ps y) wo hsv (by omega) hri.out HSY.out hly1 (HLR.out y))
      have hmb1 := minusB_len aw (leav ps y)
      have hmb2 := minusB_len (leav ps y) aw
      obtain ⟨mv, hmv⟩ : ∃ m, m = (minusB aw (leav ps y)).length + (minusB (leav ps y) aw).length := ⟨_, rfl⟩
      have HMVE := Lib.hid hmv
      have hmv1 : mv ≤ 2000000 := by have := HL2.out; omega
      rw [← hmv] at HMV
      have l1 := HLK.out wo (Kept.refl _ _)
      clear htk hmo hvy hsy hly hmb1 hmb2 hmv hsv
      go_wp2_with fail
      refine HMV.out.mono ?_
      rintro e w2 ⟨rfl, hw2⟩
      have l2' := HLK.out w2 hw2
      clear l1
      go_wp2_with fail
      go_roundw
      case rel =>
        refine ⟨k + 1, by omega, by go_num, ?_, ⟨ay, cy, ?_, ?_⟩, hwr.trans hw2⟩
        · rw [HN.out.1, ← HG0.out, ← HAWE.out, ← HMVE.out]; go_num
        · rw [HN.out.2, ← HLY.out]
        · rw [HN.out.2, ← HLY.out]; exact HSY.out.keep RStr.ok hw2
      case measure => simp [intOf]; omega
    · have hd : decide ((k : Int) < (len : Int)) = false := by simp; omega
      have hxe : ss.take k = ss := List.take_of_length_le (by have := Hlen.out; omega)
      have HF := Lib.hid (show movesN ps ss = g0 + l2 by rw [movesN, HG0.out, HL2.out, HAWE.out, hxe])
      clear hxe
      go_wp2_with fail
      go_ret
      exact ⟨ret_int' (by rw [HF.out]; omega), hwr⟩

def MovesPost (ss : List ByteArray) (ps : List Pair2) (w : World) (e : Ending) (w' : World) : Prop :=
  (orderE ss ps ≠ 0 → e = .returned (.tuple #[.int .i64 0, .int .i64 (orderE ss ps)])) ∧ (orderE ss ps = 0 → e = .returned (.tuple #[.int .i64 ((movesN ps ss : Nat) : Int), .int .i64 0])) ∧ All w w'
theorem orderE_zero {ss : List ByteArray} {ps : List Pair2} (h : orderE ss ps = 0) : ss.length ≤ 400 ∧ ps.length ≤ 120000 ∧ ps.Pairwise ltPP := by
  unfold orderE at h
  split at h
  · exact absurd h (by assumption)
  · rename_i h1
    refine ⟨?_, (pairsF_rises h).1, (pairsF_rises h).2⟩
    simp only [ne_eq, Decidable.not_not] at h1
    unfold orderF at h1
    split at h1
    · omega
    · omega

set_option maxHeartbeats 3200000 in
theorem movesT_any (a : Option Addr) (len cap : Nat) (ss : List ByteArray) (a2 : Option Addr) (l2 c2 : Nat) (ps : List Pair2) (w : World) (hs : Sl RStr 1 (fun _ => True) w a len ss) (hl : len ≤ 1000000) (hp : Sl RPair 2 (fun _ => True) w a2 l2 ps) (hl2 : l2 ≤ 1000000) :
    Calls Tryz.prog 10 #[.slice a len cap, .slice a2 l2 c2] w (MovesPost ss ps w) := by
  have Hl1 := Lib.hid hs.len
  have Hl2 := Lib.hid hp.len
  have HO := Lib.hid (orderFault_any a len cap ss a2 l2 c2 ps w hs hl hp hl2)
  by_cases h0 : orderE ss ps = 0
  · obtain ⟨z1, z2, z3⟩ := orderE_zero h0
    have HL := Lib.hid (fun (wx : World) (k : All w wx) => leaving_any a2 l2 c2 ps wx (hp.keep RPair.ok k) hl2)
    have HT := Lib.hid (fun (wx : World) (k : All w wx) (B mb n : Nat) (vals : ByteArray → Value) (hm : LV wx B mb n vals (leav ps)) => total_any a len cap ss ps wx (hs.keep RStr.ok k) (by have := Hl1.out; omega) hm z2 z3)
    have H0 := Lib.hid h0
    rw [h0] at HO
    clear hs hp z3 h0
    go_enter Tryz.func10, Tryz.ntmps10
    go_wp2_with fail
    refine HO.out.mono ?_
    rintro e w2 ⟨rfl, hw2⟩
    go_wp2_with fail
    refine (HL.out _ hw2).mono ?_
    rintro e w3 ⟨mb, n, vals, rfl, hm, hw3⟩
    go_wp2_with fail
    refine (HT.out _ (hw2.trans hw3) _ _ _ _ hm).mono ?_
    rintro e w4 ⟨rfl, hw4⟩
    go_wp2_with fail
    go_ret2
    exact ⟨fun h => absurd H0.out h, fun _ => rfl, (hw2.trans hw3).trans hw4⟩
  · obtain ⟨er, her⟩ : ∃ er, er = orderE ss ps := ⟨_, rfl⟩
    have HER := Lib.hid her
    rw [← her] at HO h0
    have hne : (er != 0) = true := by simpa using h0
    have H0 := Lib.hid h0
    clear hs hp her h0
    go_enter Tryz.func10, Tryz.ntmps10
    go_wp2_with fail
    refine HO.out.mono ?_
    rintro e w2 ⟨rfl, hw2⟩
    go_wp2_with fail
    go_ret2
    exact ⟨fun _ => by rw [← HER.out]; rfl, fun h => absurd (HER.out.trans h) H0.out, hw2⟩
end Go.Proofs.YtllkemadaemjeaaGreatDoor
