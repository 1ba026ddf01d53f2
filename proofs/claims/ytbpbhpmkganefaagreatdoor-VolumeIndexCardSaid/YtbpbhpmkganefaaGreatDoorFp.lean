/- SortOf and InitialsOf. -/
import Derived.Test.YtbpbhpmkganefaaGreatDoorFo
namespace Go.Proofs.YtbpbhpmkganefaaGreatDoor
open Go.RowKit

set_option maxRecDepth 100000 in
set_option maxHeartbeats 3200000 in
theorem sortOf_any (s : ByteArray) (w : World) (hs : s.size ≤ 100) (hg : GlobS w) :
    Calls Tryz.prog 46 #[.string s] w fun e w' => e = .returned (.string (sortB s)) ∧ All w w' := by
  have HD := Lib.hid (family_any s w hs hg)
  have hc := cutN_lt s
  have HF := Lib.hid (famB_size hs)
  have HO := Lib.hid (othB_size hs)
  obtain ⟨cn, hcn⟩ : ∃ c, c = cutN s := ⟨_, rfl⟩
  have HC := Lib.hid hcn
  obtain ⟨r, hr⟩ : ∃ r, r = sortB s := ⟨_, rfl⟩
  have HR := Lib.hid hr
  rw [← hr]
  clear hg hr
  go_enter Tryz.func46, Tryz.ntmps46
  go_wp2_with fail
  refine HD.out.mono ?_
  rintro e w1 ⟨b, n, hn, rfl, hat, hw1⟩
  obtain ⟨fm, hfm⟩ : ∃ f, f = famB s := ⟨_, rfl⟩
  obtain ⟨ot, hot⟩ : ∃ f, f = othB s := ⟨_, rfl⟩
  have HJ2 := Lib.hid (fun (wx : World) (k : All w1 wx) => (show Calls Tryz.prog 43 #[.slice (some ⟨b, 0, none⟩) (cutN s) n, .string sepB] wx fun e w' => e = .returned (.string ot) ∧ All wx w' by
    have h := joinW_any (s := s) wx hs (hat.keep k) 0 (cutN s) n (by omega) (by omega)
    rw [hot, othB]
    exact h))
  rw [← hcn] at HJ2 hc ⊢
  have hzf : fm.size ≤ 10201 := by rw [hfm]; exact HF.out
  have hzo : ot.size ≤ 10201 := by rw [hot]; exact HO.out
  have HS1 := Lib.hid (show 0 < cn → sortB s = fm ++ (⟨#[44, 32]⟩ ++ ot) from fun h => by rw [sortB, if_pos (by rw [← hcn]; exact h), hfm, hot])
  have HS0 := Lib.hid (show ¬ 0 < cn → sortB s = fm from fun h => by rw [sortB, if_neg (by rw [← hcn]; exact h), hfm])
  have h2s : (⟨#[44, 32]⟩ : ByteArray).size = 2 := rfl
  obtain ⟨t1, ht1, hz1, g1⟩ := catRun Tryz.prog fm ⟨#[44, 32]⟩ (by omega)
  obtain ⟨t2, ht2, hz2, g2⟩ := catRun Tryz.prog t1 ot (by omega)
  have HT2 := Lib.hid (show t2 = fm ++ (⟨#[44, 32]⟩ ++ ot) by rw [ht2, ht1, ByteArray.append_assoc])
  rw [← hfm]
  clear hn hat HD hfm hot hcn ht1 ht2 hz1 hz2 hzf hzo h2s HF HO
  rw [← HR.out] at HS1 HS0
  by_cases h0 : 0 < cn
  · have d1 : ((cn : Int) == 0) = false := by rw [beq_eq_false_iff_ne]; omega
    have HT := Lib.hid (show r = t2 by rw [HS1.out h0, HT2.out])
    go_wp2_with fail
    refine (HJ2.out _ (Kept.refl _ _)).mono ?_
    rintro e w3 ⟨rfl, hw3⟩
    go_wp2_with fail
    go_ret
    exact ⟨by rw [HT.out]; rfl, hw1.trans hw3⟩
  · have h00 : cn = 0 := by omega
    subst h00
    have HT := Lib.hid (HS0.out h0)
    go_wp2_with fail
    go_ret
    exact ⟨by rw [HT.out]; rfl, hw1⟩

theorem words_of_line {s : ByteArray} (hl : lineB s 100 = true) {k : Nat} {x : ByteArray} (hx : (wordsB s)[k]? = some x) (hk : k < cutN s) : (∃ cs, Good x.data.toList cs) ∧ x.data.toList ≠ [] := by
  have hp : plainB s = true := by
    unfold lineB at hl
    simp only [Bool.and_eq_true] at hl
    exact hl.1.2
  unfold plainB at hp
  simp only [Bool.and_eq_true, decide_eq_true_eq, Bool.not_eq_true'] at hp
  have hc := cutN_lt s
  exact ⟨wordsB_good hp.1.1.2 x (List.mem_of_getElem? hx), wordsB_ne hp.1.2 hp.2 hx (by omega)⟩

set_option maxRecDepth 100000 in
set_option maxHeartbeats 3200000 in
theorem initialsOf_any (s : ByteArray) (w : World) (hl : lineB s 100 = true) (hg : GlobS w) :
    Calls Tryz.prog 42 #[.string s] w fun e w' => e = .returned (.string (initsB s)) ∧ All w w' := by
  have hs := lineB_small hl
  have HD := Lib.hid (family_any s w hs hg)
  have hc := cutN_lt s
  have hmany := wordsB_many s
  have HF := Lib.hid (famB_size hs)
  have HL := Lib.hid hl
  obtain ⟨cn, hcn⟩ : ∃ c, c = cutN s := ⟨_, rfl⟩
  have HC := Lib.hid hcn
  clear hg hl
  go_enter Tryz.func42, Tryz.ntmps42
  go_wp2_with fail
  refine HD.out.mono ?_
  rintro e w1 ⟨b, n, hn, rfl, hat, hw1⟩
  obtain ⟨fm, hfm⟩ : ∃ f, f = famB s := ⟨_, rfl⟩
  have HFM := Lib.hid hfm
  have HAT := Lib.hid hat
  rw [← hcn] at hc ⊢
  rw [← hfm]
  have hcs : cn ≤ 101 := by omega
  clear hn hat HD hcn hfm
  go_wp2_with fail
  go_loopw [5, 15] (fun o i wr => ∃ k : Nat, k ≤ cn ∧ i = .int .i64 k ∧ o = .string (initsTo s k) ∧ All w1 wr) (fun _ i _ => cn - (intOf i).toNat)
  case atStart => exact ⟨0, Nat.zero_le _, rfl, rfl, Kept.refl _ _⟩
  case round =>
    obtain ⟨k, hk, rfl, rfl, hwr⟩ := hrel
    obtain ⟨wo, rfl⟩ : ∃ wo : World, wo = wr := ⟨_, rfl⟩
    have hsz := initsTo_size hs k (by omega)
    obtain ⟨o, ho⟩ : ∃ o, o = initsTo s k := ⟨_, rfl⟩
    have HO := Lib.hid ho
    rw [← ho] at hsz ⊢
    clear ho
    by_cases hlt : k < cn
    · have hml : k < (wordsB s).length := by omega
      obtain ⟨x, hx⟩ : ∃ x, (wordsB s)[k]? = some x := ⟨_, List.getElem?_eq_getElem hml⟩
      obtain ⟨⟨cs, hgood⟩, hne⟩ := words_of_line HL.out hx (by rw [← HC.out]; exact hlt)
      have c0 := (HAT.out.keep hwr).cell hx
      have hgd : (wordsB s).getD k ⟨#[]⟩ = x := by rw [List.getD_eq_getElem?_getD, hx]; rfl
      have hxz := wordsB_size (List.mem_of_getElem? hx)
      obtain ⟨q, hq⟩ : ∃ q, q = initB x := ⟨_, rfl⟩
      have hqz : q.size ≤ 504 := by rw [hq]; have := initB_size x; omega
      have HI := Lib.hid (show Calls Tryz.prog 73 #[.string x] wo fun e w' => e = .returned (.string q) ∧ All wo w' by rw [hq]; exact initialR_any x cs wo (by omega) hgood hne)
      obtain ⟨t1, ht1, hz1, g1⟩ := catRun Tryz.prog q ⟨#[46, 32]⟩ (by have : (⟨#[46, 32]⟩ : ByteArray).size = 2 := rfl; omega)
      obtain ⟨t2, ht2, hz2, g2⟩ := catRun Tryz.prog o t1 (by rw [hz1]; have : (⟨#[46, 32]⟩ : ByteArray).size = 2 := rfl; omega)
      have HT := Lib.hid (show initsTo s (k + 1) = t2 by rw [initsTo, hgd, ht2, ht1, hq, HO.out])
      clear hx hgd hxz hq hqz ht1 ht2 hz1 hz2 hsz hml hgood hne
      go_wp2_with fail
      refine HI.out.mono ?_
      rintro e w2 ⟨rfl, hw2⟩
      go_wp2_with fail
      go_roundw
      case rel => exact ⟨k + 1, by omega, by go_num, by rw [HT.out], hwr.trans hw2⟩
      case measure => simp [intOf]; omega
    · have hd : decide ((k : Int) < (cn : Int)) = false := by simp; omega
      have hke : k = cn := by omega
      obtain ⟨t1, ht1, -, g1⟩ := catRun Tryz.prog o fm (by rw [HFM.out]; have := HF.out; omega)
      have HT := Lib.hid (show initsB s = t1 by rw [initsB, ht1, HO.out, HFM.out, ← HC.out, hke])
      clear hke ht1 hsz
      go_wp2_with fail
      go_ret
      exact ⟨by rw [HT.out]; rfl, hw1.trans hwr⟩
end Go.Proofs.YtbpbhpmkganefaaGreatDoor
