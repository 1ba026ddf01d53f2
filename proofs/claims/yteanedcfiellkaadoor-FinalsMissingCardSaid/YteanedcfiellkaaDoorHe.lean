/- LackingOf answers lackF, sorted. -/
import Derived.Test.YteanedcfiellkaaDoorHd
import Derived.Test.YteanedcfiellkaaDoorVc
namespace Go.Proofs.YteanedcfiellkaaDoor
open Go.RowKit

theorem finFind_neg {xs : List Fin4} {p : ByteArray} (h : (finOf xs p).isSome = false) : findG (isPaper p) 0 xs = -1 := by
  refine findG_neg ?_
  unfold finOf at h
  cases h2 : xs.any (isPaper p) with
  | false => rfl
  | true =>
    rw [List.find?_isSome.2] at h
    · cases h
    · obtain ⟨x, h3, h4⟩ := List.any_eq_true.1 h2
      exact ⟨x, h3, h4⟩
theorem finFind_pos {xs : List Fin4} {p : ByteArray} (h : (finOf xs p).isSome = true) : 0 ≤ findG (isPaper p) 0 xs := by
  refine findG_nonneg ?_
  unfold finOf at h
  obtain ⟨x, h3, h4⟩ := List.find?_isSome.1 h
  exact List.any_eq_true.2 ⟨x, h3, h4⟩
/-- What a call returns that gathers strings: a slice of its own, read as ss. -/
def StrsPost (ss : List ByteArray) (w : World) (e : Ending) (w' : World) : Prop := ∃ a cap, e = .returned (.slice a ss.length cap) ∧ Sl RStr 1 (fun _ => True) w' a ss.length ss ∧ All w w'

set_option maxRecDepth 100000 in
set_option maxHeartbeats 3200000 in
theorem lackingOf_any (af : Option Addr) (lf cf : Nat) (xs : List Fin4) (a : Option Addr) (len cap : Nat) (ds : List Dec3) (w : World) (hf : Sl RFin 4 (fun _ => True) w af lf xs) (hlf : lf ≤ 1000) (hs : Sl RDec 3 (fun _ => True) w a len ds) (hl : len ≤ 1000) :
    Calls Tryd.prog 57 #[.slice af lf cf, .slice a len cap] w (StrsPost (sortB (lackF xs ds)) w) := by
  have Hlen := Lib.hid hs.len
  obtain ⟨B0, hB1, hB2⟩ : ∃ B0, B0 ≤ w.heap.size ∧ w.heap.size ≤ B0 := ⟨_, Nat.le_refl _, Nat.le_refl _⟩
  go_enter Tryd.func57, Tryd.ntmps57
  go_wp2_with fail
  go_loopw [5, 10] (fun v i wr => ∃ (j : Nat) (ss : List ByteArray), j ≤ len ∧ i = .int .i64 j ∧ ss = lackF xs (ds.take j) ∧ Acc RStr 1 9 (fun _ => False) B0 wr v ss ∧ All w wr) (fun _ i _ => len - (intOf i).toNat)
  case atStart => exact ⟨0, [], Nat.zero_le _, rfl, by simp [lackF, papersD], Acc.nil _ _ _ _ _ _, Kept.refl _ _⟩
  case round =>
    obtain ⟨j, ss, hj, rfl, hss, hacc, hall⟩ := hrel
    obtain ⟨wo, rfl⟩ : ∃ wo : World, wo = wr := ⟨_, rfl⟩
    have hsl : ss.length ≤ 1000 := by
      have h1 := lackF_len xs (ds.take j)
      rw [← hss] at h1
      simp only [List.length_take] at h1
      omega
    obtain ⟨ae, ce, hve, hce⟩ := hacc.form
    obtain ⟨sl, hsle⟩ : ∃ sl, sl = ss.length := ⟨_, rfl⟩
    rw [← hsle] at hve hce hsl
    have Hsl := Lib.hid hsle
    have HSS := Lib.hid hss
    clear hsle hss
    subst hve
    have hszo := hall.size
    by_cases hlt : j < len
    · obtain ⟨b, off, y, ha, -, c0, c1, c2, hz0, hy, -, hty⟩ := (hs.keep RDec.ok hall).atDec hlt
      subst ha
      have HT := Lib.hid hty
      clear hy hty
      have hwa := hall.then_alloc (.cells #[.string y.paper, .bool y.yes, .int .i64 y.rank] 150)
      have hblk := heap_at wo (.cells #[.string y.paper, .bool y.yes, .int .i64 y.rank] 150) _ rfl
      have e0 := cell_at (i := 0) hblk rfl
      have e1 := cell_at (i := 1) hblk rfl
      have hacca := hacc.keepAll RStr.ok (Kept.alloc (fun _ => True) wo (.cells #[.string y.paper, .bool y.yes, .int .i64 y.rank] 150))
      have HFA := Lib.hid (fun (wx : World) (hx : All w wx) => finalAt_any af lf cf xs y.paper wx (hf.keep RFin.ok hx) (by omega))
      cases h1 : y.yes with
      | false =>
        have hno : isLack xs y = false := by simp [isLack, h1]
        have hnx := Lib.hid (show ss = lackF xs (ds.take (j + 1)) by rw [lackF_no HT.out hno]; exact HSS.out)
        simp only [h1] at c1 e0 e1 hwa hacca
        clear hacc hall hblk hno
        go_wp2_with fail
        go_roundw
        case rel => exact ⟨j + 1, _, by omega, by go_num, hnx.out, hacca, hwa⟩
        case measure => simp [intOf]; omega
      | true =>
        simp only [h1] at c1 e0 e1 hwa hacca
        cases h2 : (finOf xs y.paper).isSome with
        | true =>
          have hno : isLack xs y = false := by simp [isLack, h2]
          have hnx := Lib.hid (show ss = lackF xs (ds.take (j + 1)) by rw [lackF_no HT.out hno]; exact HSS.out)
          have hpos := finFind_pos h2
          have dp : decide (findG (isPaper y.paper) 0 xs < 0) = false := by simp; omega
          clear hacc hall hblk hno h2
          go_wp2_with fail
          refine (HFA.out _ hwa).mono ?_
          rintro e w2 ⟨rfl, hw2⟩
          have hacc2 := hacca.keepAll RStr.ok hw2
          have hw3 := hwa.trans hw2
          clear hacca hwa hw2
          go_wp2_with fail
          go_roundw
          case rel => exact ⟨j + 1, _, by omega, by go_num, hnx.out, hacc2, hw3⟩
          case measure => simp [intOf]; omega
        | false =>
          have hyes : isLack xs y = true := by simp [isLack, h1, h2]
          have hnx := Lib.hid (show ss ++ [y.paper] = lackF xs (ds.take (j + 1)) by rw [lackF_yes HT.out hyes, HSS.out])
          have hneg := Lib.hid (finFind_neg h2)
          clear hacc hall hblk hyes h2
          go_wp2_with fail
          refine (HFA.out _ hwa).mono ?_
          rintro e w2 ⟨rfl, hw2⟩
          rw [hneg.out]
          have hacc2 := hacca.keepAll RStr.ok hw2
          have hw3 := hwa.trans hw2
          have q0 := hw2.cell e0 trivial
          have hsz2 := hw3.size
          clear hacca hwa hw2 e0 e1
          go_wp2_with (at_builtin; refine wp_append1 RStr.ok _ rfl _ _ 26 rfl B0 9 (.string ⟨#[]⟩) 1 16 Tryd.underlying26 (by kernel_rfl) rfl (by decide) (fun _ => False) _ ss rfl (hacc2.keepAll RStr.ok (Kept.alloc _ _ _)) ⟨_, 0, none⟩ 1 [.string y.paper] rfl rfl (World.news_of_block (cs := #[.string y.paper]) (heap_alloc_new w2 _)) (by simp [Value.oneCell']) y.paper ⟨rfl, hz0⟩ (by have := Hsl.out; omega) (by decide) (by simp; omega) ?_)
          intro p' c' w9 hacc9 hg9 _
          have hw9 : All w w9 := (hw3.then_alloc _).grown hg9 (fun k hk => Or.inl (by have := (hacc2.lt k hk).1; omega))
          clear hacc2 hg9 hw3 q0 hsz2
          go_wp2_with fail
          go_roundw
          case rel => exact ⟨j + 1, _, by omega, by go_num, hnx.out, hacc9, hw9⟩
          case measure => simp [intOf]; omega
    · have hd : decide ((j : Int) < (len : Int)) = false := by simp; omega
      have hfin := Lib.hid (HSS.out.trans (lackF_all (xs := xs) (ds := ds) (k := j) (by have := Hlen.out; omega)))
      go_wp2_with fail
      refine (sort_any _ ss _ hacc (by have := Hsl.out; omega)).mono ?_
      rintro e w2 ⟨rfl, hacc2, hg2⟩
      have hw2 : All w w2 := hall.grown hg2 (fun k hk => Or.inl (by have := (hacc.lt k hk).1; omega))
      obtain ⟨a2, c2, hv2, hsl2⟩ := hacc2.sl RStr.ok (by decide) (G := fun _ => True) (fun _ h => h.elim) (fun _ _ => trivial)
      rw [hfin.out] at hv2 hsl2
      cases hv2
      clear hacc hacc2 hg2
      go_wp2_with fail
      go_ret
      exact ⟨_, _, rfl, hsl2, hw2⟩
end Go.Proofs.YteanedcfiellkaaDoor
