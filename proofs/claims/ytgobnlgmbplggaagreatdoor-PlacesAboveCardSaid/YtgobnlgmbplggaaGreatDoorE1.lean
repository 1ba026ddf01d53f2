/- Places above places, of the program: above, inside, Inside, Above. -/
import Derived.Test.YtgobnlgmbplggaaGreatDoorP7
namespace Go.Proofs.YtgobnlgmbplggaaGreatDoor
open Go.RowKit

/-- What is known of places whose check went well. -/
structure PlcFine (l : List Plc) : Prop where
  ok : PlcOk l
  len : l.length ≤ 200
  cyc : ∀ p ∈ l, cycB l p.key = false
  par : ∀ p ∈ l, p.parent.size ≠ 0 → hasP l p.parent = true
theorem plc_fine {l : List Plc} (h : placesF l = 0) : PlcFine l := by
  have h1 : ¬ 200 < l.length := fun h1 => by rw [placesF_large h1] at h; exact absurd h (by decide)
  have h2 : scanF plcE none l = 0 := Classical.byContradiction fun h2 => h2 (by rw [← placesF_scan h1 rfl h2]; exact h)
  have h3 : (l.any fun p => decide (p.parent.size ≠ 0) && !hasP l p.parent) = false := by
    cases h3 : (l.any fun p => decide (p.parent.size ≠ 0) && !hasP l p.parent) with
    | false => rfl
    | true => rw [placesF_none h1 h2 h3] at h; exact absurd h (by decide)
  have h4 : (l.any fun p => cycB l p.key) = false := by
    cases h4 : (l.any fun p => cycB l p.key) with
    | false => rfl
    | true => rw [placesF_loop h1 h2 h3 h4] at h; exact absurd h (by decide)
  refine ⟨plc_ok h2, by omega, fun p hp => ?_, fun p hp hn => ?_⟩
  · cases h5 : cycB l p.key with
    | false => rfl
    | true => rw [List.any_eq_true.2 ⟨p, hp, h5⟩] at h4; exact nomatch h4
  · cases h5 : hasP l p.parent with
    | true => rfl
    | false => rw [List.any_eq_true.2 ⟨p, hp, by simp [hn, h5]⟩] at h3; exact nomatch h3
set_option maxHeartbeats 3200000 in
theorem above_any (b n : Nat) (l : List Plc) (s : ByteArray) (w : World) (h : MapS Tryz.prog 9 w b n (upV l)) (hf : PlcFine l) (hsz : ∀ p ∈ l, p.parent.size ≤ 1000000) (hz : s.size ≤ 1000000) :
    Calls Tryz.prog 78 #[.map (some b), .string s] w (StrsOut (upL l s) w) := by
  have HE := Lib.hid (ends hf.ok hf.cyc s)
  have HLL := Lib.hid hf.len
  have HPZ := Lib.hid (fun (t : ByteArray) => parL_size (l := l) hsz t)
  have HLK := Lib.hid (fun (t : ByteArray) (ht : t.size ≤ 1000000) (wx : World) (k : All w wx) => (show (Instr.lookup 116 (.map (some b)) (.string t) false).run Tryz.prog wx = .ok (.string (parL l t)) wx from by
    have hlk := (h.keep k trivial).look Tryz.underlying9 Tryz.underlying116 (Tryz.zeroValue9 _) t ht
    rwa [upV_par hf.ok.once] at hlk))
  have hlk := HLK.out s hz w (Kept.refl _ _)
  have HP1 := Lib.hid (show parL l s = climb l 1 s from rfl)
  have hz1 := HPZ.out s
  clear h hf hsz
  go_enter Tryz.func78, Tryz.ntmps78
  generalize parL l s = s1 at *
  go_wp2_with fail
  go_loopw [5, 6] (fun o t wr => ∃ (j : Nat) (t0 : ByteArray), t = .string t0 ∧ t0 = climb l (j + 1) s ∧ t0.size ≤ 1000000 ∧ (aboveL l j s).length = j ∧ (∀ i, i < j → (climb l (i + 1) s).size ≠ 0) ∧ Acc RStr 1 9 (fun _ => False) w.heap.size wr o (aboveL l j s) ∧ All w wr) (fun o _ _ => 201 - sliceLen o)
  case atStart => exact ⟨0, s1, rfl, HP1.out, hz1, rfl, fun _ h => absurd h (by omega), Acc.nil _ _ _ _ _ _, Kept.refl _ _⟩
  case round =>
    obtain ⟨j, t0, rfl, ht, htz, hjl, hne, hacc, hall⟩ := hrel
    obtain ⟨wo, rfl⟩ : ∃ wo : World, wo = wr := ⟨_, rfl⟩
    obtain ⟨av, cv, rfl, -⟩ := hacc.form
    have HAC := Lib.hid hacc
    have HNE := Lib.hid hne
    have HT := Lib.hid ht
    have HJ := Lib.hid hjl
    have HJL := Lib.hid (show j ≤ l.length from by
      obtain ⟨j0, h1, h2⟩ := HE.out
      refine Classical.byContradiction fun h3 => HNE.out j0 (by omega) h2)
    clear hacc hne ht hjl hlk hz1
    by_cases hp0 : t0.size = 0
    · have hpe : (t0.toList == []) = true := by rw [toList_nil hp0]; rfl
      have HUP := Lib.hid (show upL l s = aboveL l j s from aboveL_stop j (l.length + 1) s (by rw [← HT.out]; exact hp0) HNE.out (by have := HJL.out; omega))
      have HFIN := Lib.hid (show StrsOut (upL l s) w (.returned (.slice av (aboveL l j s).length cv)) wo from ⟨_, rfl, by rw [HUP.out]; exact HAC.out, hall⟩)
      clear hp0
      go_wp2_with fail
      go_ret
      exact HFIN.out
    · have hpe : (t0.toList == []) = false := by rw [beq_eq_false_iff_ne]; exact toList_ne hp0
      have HNE2 := Lib.hid (show ∀ i, i < j + 1 → (climb l (i + 1) s).size ≠ 0 from fun i hi => by
        rcases Nat.lt_or_ge i j with h | h
        · exact HNE.out i h
        · obtain rfl : i = j := by omega
          rw [← HT.out]; exact hp0)
      have HSN := Lib.hid (show aboveL l (j + 1) s = aboveL l j s ++ [t0] from by rw [HT.out]; exact aboveL_snoc j s HNE2.out)
      have HN := Lib.hid (show parL l t0 = climb l (j + 1 + 1) s from by rw [HT.out, ← climb_succ])
      have hn2 := HPZ.out t0
      have hws := hall.size
      obtain ⟨xs, hxs⟩ : ∃ z, z = aboveL l j s := ⟨_, rfl⟩
      have hjl := HJ.out
      have hacc := HAC.out
      rw [← hxs] at hacc hjl ⊢
      have HXS := Lib.hid hxs
      have HL := Lib.hid hjl
      have hxl : xs.length ≤ 100001 := by have := HJL.out; have := HLL.out; omega
      clear hxs hjl HAC HJ hp0
      go_wp2_with (at_builtin; refine wp_append1 RStr.ok _ rfl _ _ 45 rfl w.heap.size 9 (.string ⟨#[]⟩) 1 16 Tryz.underlying45 (by kernel_rfl) rfl (by decide) (fun _ => False) _ (xs) rfl (hacc.keepAll RStr.ok (Kept.alloc _ _ _)) ⟨_, 0, none⟩ 1 [.string t0] rfl rfl (World.news_of_block (cs := #[.string t0]) (heap_at _ _ _ (by simp))) (by simp [Value.oneCell']) t0 ⟨rfl, htz⟩ (by omega) (by decide) (by simp at *; omega) ?_)
      intro p' c' w9 hacc9 hg9 _
      have hk9 : All w w9 := (hall.then_alloc _).grown hg9 (fun i hi => Or.inl (hacc.lt i hi).1)
      have hlk := HLK.out t0 htz w9 hk9
      generalize parL l t0 = t1 at *
      go_wp2_with fail
      go_roundw
      case rel => exact ⟨j + 1, t1, rfl, HN.out, hn2, by rw [HSN.out, ← HXS.out, List.length_append, HL.out]; rfl, HNE2.out, by rw [HSN.out, ← HXS.out]; exact hacc9, hk9⟩
      case measure => have := HL.out; have := HJL.out; have := HLL.out; show 201 - (xs.length + 1) < 201 - xs.length; omega
theorem inside_any (b n : Nat) (l : List Plc) (s t : ByteArray) (w : World) (h : MapS Tryz.prog 9 w b n (upV l)) (hf : PlcFine l) (hsz : ∀ p ∈ l, p.parent.size ≤ 1000000) (hz : s.size ≤ 1000000) :
    Calls Tryz.prog 77 #[.map (some b), .string s, .string t] w fun e w' => e = .returned (.bool (inL l s t)) ∧ All w w' := by
  have HA := Lib.hid (above_any b n l s w h hf hsz hz)
  have HLEN := Lib.hid (show (upL l s).length ≤ 1000000 from by have := aboveL_len (l := l) (l.length + 1) s; have := hf.len; show (aboveL l (l.length + 1) s).length ≤ 1000000; omega)
  by_cases hst : s = t
  · have hd : (s.toList == t.toList) = true := by rw [hst]; simp
    have HI := Lib.hid (show inL l s t = true from by rw [inL, decide_eq_true hst]; rfl)
    rw [HI.out]
    clear h hst
    go_enter Tryz.func77, Tryz.ntmps77
    go_wp2_with fail
    go_ret
    exact ⟨rfl, Kept.refl _ _⟩
  · have hd : (s.toList == t.toList) = false := by rw [beq_eq_false_iff_ne]; exact fun e => hst (bytes_ext e)
    have HI := Lib.hid (show inL l s t = memB t (upL l s) from by rw [inL, decide_eq_false hst]; rfl)
    rw [HI.out]
    clear h hst
    go_enter Tryz.func77, Tryz.ntmps77
    go_wp2_with fail
    refine HA.out.mono ?_
    rintro e w2 h2
    obtain ⟨av, cv, rfl, hsl, hw2⟩ := h2.slice
    have HC := Lib.hid (contains_any av _ cv (upL l s) t w2 hsl HLEN.out)
    clear hsl h2
    go_wp2_with fail
    refine HC.out.mono ?_
    rintro e w3 ⟨rfl, rfl⟩
    go_wp2_with fail
    go_ret
    exact ⟨rfl, hw2⟩
/-- What Inside and Above answer. -/
noncomputable def insE (l : List Plc) (a b : ByteArray) : Int := if placesF l ≠ 0 then placesF l else if hasP l a = false ∨ hasP l b = false then 8 else 0
noncomputable def abvE (l : List Plc) (a : ByteArray) : Int := if placesF l ≠ 0 then placesF l else if hasP l a = false then 8 else 0
noncomputable def insV (l : List Plc) (a b : ByteArray) : Bool := decide (insE l a b = 0) && inL l a b
noncomputable def abvV (l : List Plc) (a : ByteArray) : List ByteArray := if abvE l a = 0 then upL l a else []
theorem insideP_any (a : Option Addr) (len cap : Nat) (l : List Plc) (s t : ByteArray) (w : World) (hs : Sl RPlc 2 (fun _ => True) w a len l) (hl : len ≤ 100000) (hz : s.size ≤ 1000000) (hz2 : t.size ≤ 1000000) :
    Calls Tryz.prog 23 #[.slice a len cap, .string s, .string t] w fun e w' => e = .returned (.tuple #[.bool (insV l s t), .int .i64 (insE l s t)]) ∧ All w w' := by
  have HPF := Lib.hid (placesFault_any a len cap l w hs hl)
  have HPO := Lib.hid (fun (wx : World) (k : All w wx) => parentsOf_any a len cap l wx (hs.keep RPlc.ok k) hl)
  have HSM := Lib.hid (fun p hp => (sl_mem hs p hp).2)
  clear hs
  by_cases hp : placesF l = 0
  case neg =>
    have HV := Lib.hid (show insE l s t = placesF l from if_pos hp)
    have HB := Lib.hid (show insV l s t = false from by rw [insV, decide_eq_false (by rw [HV.out]; exact hp)]; rfl)
    generalize placesF l = z at *
    rw [HB.out, HV.out]
    have hd : decide (z = 0) = false := decide_eq_false hp
    have hd2 : (z == 0) = false := by rw [beq_eq_false_iff_ne]; exact hp
    have hd3 : (z != 0) = true := by rw [bne, hd2]; rfl
    go_enter Tryz.func23, Tryz.ntmps23
    go_wp2_with fail
    refine HPF.out.mono ?_
    rintro e w1 ⟨rfl, hw1⟩
    go_wp2_with fail
    go_ret2
    exact ⟨rfl, hw1⟩
  have HFN := Lib.hid (plc_fine hp)
  rw [hp] at HPF
  have HP0 := Lib.hid hp
  clear hp
  cases ha : hasP l s with
  | false =>
    have HV := Lib.hid (show insE l s t = 8 from by rw [insE, if_neg (fun h => h HP0.out), if_pos (Or.inl ha)])
    have HB := Lib.hid (show insV l s t = false from by rw [insV, decide_eq_false (by rw [HV.out]; decide)]; rfl)
    rw [HB.out, HV.out]
    go_enter Tryz.func23, Tryz.ntmps23
    go_wp2_with fail
    refine HPF.out.mono ?_
    rintro e w1 ⟨rfl, hw1⟩
    go_wp2_with fail
    refine (HPO.out _ hw1).mono ?_
    rintro e w2 ⟨mb, rfl, -, hm, hw2⟩
    have HH := Lib.hid (hasU_any mb len l s w2 hm hz)
    rw [ha] at HH
    clear hm ha
    go_wp2_with fail
    refine HH.out.mono ?_
    rintro e w3 ⟨rfl, rfl⟩
    go_wp2_with fail
    go_ret2
    exact ⟨rfl, hw1.trans hw2⟩
  | true =>
    cases hb : hasP l t with
    | false =>
      have HV := Lib.hid (show insE l s t = 8 from by rw [insE, if_neg (fun h => h HP0.out), if_pos (Or.inr hb)])
      have HB := Lib.hid (show insV l s t = false from by rw [insV, decide_eq_false (by rw [HV.out]; decide)]; rfl)
      rw [HB.out, HV.out]
      go_enter Tryz.func23, Tryz.ntmps23
      go_wp2_with fail
      refine HPF.out.mono ?_
      rintro e w1 ⟨rfl, hw1⟩
      go_wp2_with fail
      refine (HPO.out _ hw1).mono ?_
      rintro e w2 ⟨mb, rfl, -, hm, hw2⟩
      have HH := Lib.hid (hasU_any mb len l s w2 hm hz)
      have HH2 := Lib.hid (hasU_any mb len l t w2 hm hz2)
      rw [ha] at HH
      rw [hb] at HH2
      clear hm ha hb
      go_wp2_with fail
      refine HH.out.mono ?_
      rintro e w3 ⟨rfl, rfl⟩
      go_wp2_with fail
      refine HH2.out.mono ?_
      rintro e w4 ⟨rfl, rfl⟩
      go_wp2_with fail
      go_ret2
      exact ⟨rfl, hw1.trans hw2⟩
    | true =>
      have HV := Lib.hid (show insE l s t = 0 from by rw [insE, if_neg (fun h => h HP0.out), if_neg (by rw [ha, hb]; decide)])
      have HB := Lib.hid (show insV l s t = inL l s t from by rw [insV, decide_eq_true HV.out]; rfl)
      rw [HB.out, HV.out]
      go_enter Tryz.func23, Tryz.ntmps23
      go_wp2_with fail
      refine HPF.out.mono ?_
      rintro e w1 ⟨rfl, hw1⟩
      go_wp2_with fail
      refine (HPO.out _ hw1).mono ?_
      rintro e w2 ⟨mb, rfl, -, hm, hw2⟩
      have HH := Lib.hid (hasU_any mb len l s w2 hm hz)
      have HH2 := Lib.hid (hasU_any mb len l t w2 hm hz2)
      have HI := Lib.hid (inside_any mb len l s t w2 hm HFN.out HSM.out hz)
      rw [ha] at HH
      rw [hb] at HH2
      clear hm ha hb
      go_wp2_with fail
      refine HH.out.mono ?_
      rintro e w3 ⟨rfl, rfl⟩
      go_wp2_with fail
      refine HH2.out.mono ?_
      rintro e w4 ⟨rfl, rfl⟩
      go_wp2_with fail
      refine HI.out.mono ?_
      rintro e w5 ⟨rfl, hw5⟩
      go_wp2_with fail
      go_ret2
      exact ⟨rfl, (hw1.trans hw2).trans hw5⟩
/-- Two results: strings of one's own and a number. -/
def StrsOut2 (ss : List ByteArray) (z : Int) (w : World) (e : Ending) (w' : World) : Prop := ∃ v, e = .returned (.tuple #[v, .int .i64 z]) ∧ Acc RStr 1 9 (fun _ => False) w.heap.size w' v ss ∧ All w w'
theorem StrsOut2.slice {ss : List ByteArray} {z : Int} {w w' : World} {e : Ending} (h : StrsOut2 ss z w e w') : ∃ a c, e = .returned (.tuple #[.slice a ss.length c, .int .i64 z]) ∧ Sl RStr 1 (fun _ => True) w' a ss.length ss ∧ All w w' := by
  obtain ⟨v, h1, h2, h3⟩ := h
  obtain ⟨a, c, rfl, hs⟩ := h2.sl RStr.ok (by decide) (G := fun _ => True) (fun _ h => h.elim) (fun _ _ => trivial)
  exact ⟨a, c, h1, hs, h3⟩
theorem StrsOut2.none {z : Int} {w w' : World} (h : All w w') : StrsOut2 [] z w (.returned (.tuple #[.slice none 0 0, .int .i64 z])) w' := ⟨_, rfl, Acc.nil _ _ _ _ _ _, h⟩
theorem aboveP_any (a : Option Addr) (len cap : Nat) (l : List Plc) (s : ByteArray) (w : World) (hs : Sl RPlc 2 (fun _ => True) w a len l) (hl : len ≤ 100000) (hz : s.size ≤ 1000000) :
    Calls Tryz.prog 24 #[.slice a len cap, .string s] w (StrsOut2 (abvV l s) (abvE l s) w) := by
  have HPF := Lib.hid (placesFault_any a len cap l w hs hl)
  have HPO := Lib.hid (fun (wx : World) (k : All w wx) => parentsOf_any a len cap l wx (hs.keep RPlc.ok k) hl)
  have HSM := Lib.hid (fun p hp => (sl_mem hs p hp).2)
  clear hs
  by_cases hp : placesF l = 0
  case neg =>
    have HV := Lib.hid (show abvE l s = placesF l from if_pos hp)
    have HB := Lib.hid (show abvV l s = [] from if_neg (by rw [HV.out]; exact hp))
    generalize placesF l = z at *
    rw [HB.out, HV.out]
    have hd : decide (z = 0) = false := decide_eq_false hp
    have hd2 : (z == 0) = false := by rw [beq_eq_false_iff_ne]; exact hp
    have hd3 : (z != 0) = true := by rw [bne, hd2]; rfl
    go_enter Tryz.func24, Tryz.ntmps24
    go_wp2_with fail
    refine HPF.out.mono ?_
    rintro e w1 ⟨rfl, hw1⟩
    go_wp2_with fail
    go_ret2
    exact StrsOut2.none hw1
  have HFN := Lib.hid (plc_fine hp)
  rw [hp] at HPF
  have HP0 := Lib.hid hp
  clear hp
  cases ha : hasP l s with
  | false =>
    have HV := Lib.hid (show abvE l s = 8 from by rw [abvE, if_neg (fun h => h HP0.out), if_pos ha])
    have HB := Lib.hid (show abvV l s = [] from if_neg (by rw [HV.out]; decide))
    rw [HB.out, HV.out]
    go_enter Tryz.func24, Tryz.ntmps24
    go_wp2_with fail
    refine HPF.out.mono ?_
    rintro e w1 ⟨rfl, hw1⟩
    go_wp2_with fail
    refine (HPO.out _ hw1).mono ?_
    rintro e w2 ⟨mb, rfl, -, hm, hw2⟩
    have HH := Lib.hid (hasU_any mb len l s w2 hm hz)
    rw [ha] at HH
    clear hm ha
    go_wp2_with fail
    refine HH.out.mono ?_
    rintro e w3 ⟨rfl, rfl⟩
    go_wp2_with fail
    go_ret2
    exact StrsOut2.none (hw1.trans hw2)
  | true =>
    have HV := Lib.hid (show abvE l s = 0 from by rw [abvE, if_neg (fun h => h HP0.out), if_neg (by rw [ha]; decide)])
    have HB := Lib.hid (show abvV l s = upL l s from if_pos HV.out)
    rw [HB.out, HV.out]
    go_enter Tryz.func24, Tryz.ntmps24
    go_wp2_with fail
    refine HPF.out.mono ?_
    rintro e w1 ⟨rfl, hw1⟩
    go_wp2_with fail
    refine (HPO.out _ hw1).mono ?_
    rintro e w2 ⟨mb, rfl, -, hm, hw2⟩
    have HH := Lib.hid (hasU_any mb len l s w2 hm hz)
    have HI := Lib.hid (above_any mb len l s w2 hm HFN.out HSM.out hz)
    rw [ha] at HH
    clear hm ha
    go_wp2_with fail
    refine HH.out.mono ?_
    rintro e w3 ⟨rfl, rfl⟩
    go_wp2_with fail
    refine HI.out.mono ?_
    rintro e w5 ⟨v, rfl, hacc, hw5⟩
    obtain ⟨av, cv, rfl, -⟩ := hacc.form
    have HF := Lib.hid (show StrsOut2 (upL l s) 0 w (.returned (.tuple #[.slice av (upL l s).length cv, .int .i64 0])) w5 from ⟨_, rfl, hacc.base (hw1.trans hw2).size, (hw1.trans hw2).trans hw5⟩)
    clear hacc
    go_wp2_with fail
    go_ret2
    exact HF.out
end Go.Proofs.YtgobnlgmbplggaaGreatDoor
