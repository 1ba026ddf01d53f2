/- SortName and Initials. -/
import Derived.Test.YtbpbhpmkganefaaDoorFm
namespace Go.Proofs.YtbpbhpmkganefaaDoor
open Go.RowKit

def famB (s : ByteArray) : ByteArray := catW (((wordsB s).drop (cutN s)).take ((wordsB s).length - cutN s))
def othB (s : ByteArray) : ByteArray := catW (((wordsB s).drop 0).take (cutN s))
/-- The family name first. -/
def sortB (s : ByteArray) : ByteArray := if 0 < cutN s then famB s ++ (⟨#[44, 32]⟩ ++ othB s) else famB s
/-- The initials of the first k words. -/
def initsTo (s : ByteArray) : Nat → ByteArray
  | 0 => ⟨#[]⟩
  | k + 1 => initsTo s k ++ (initB ((wordsB s).getD k ⟨#[]⟩) ++ ⟨#[46, 32]⟩)
def initsB (s : ByteArray) : ByteArray := initsTo s (cutN s) ++ famB s
theorem famB_size {s : ByteArray} (hs : s.size ≤ 100) : (famB s).size ≤ 10201 := by
  have hm := wordsB_many s
  rw [Lib.size_eq]
  refine catW_size hs (fun p hp => List.mem_of_mem_drop (List.mem_of_mem_take hp)) ?_
  rw [List.length_take, List.length_drop]
  omega
theorem othB_size {s : ByteArray} (hs : s.size ≤ 100) : (othB s).size ≤ 10201 := by
  have hm := wordsB_many s
  have hc := cutN_lt s
  rw [Lib.size_eq]
  refine catW_size hs (fun p hp => List.mem_of_mem_drop (List.mem_of_mem_take hp)) ?_
  rw [List.length_take, List.length_drop]
  omega
theorem initB_size (w : ByteArray) : (initB w).size ≤ 4 + 5 * w.size := by
  rw [← initTo_all]
  have := initTo_size w (w.size - 1)
  omega
theorem initsTo_size {s : ByteArray} (hs : s.size ≤ 100) : ∀ k, k ≤ (wordsB s).length → (initsTo s k).size ≤ 506 * k
  | 0, _ => by
    show (⟨#[]⟩ : ByteArray).size ≤ _
    have : (⟨#[]⟩ : ByteArray).size = 0 := rfl
    omega
  | k + 1, h => by
    have h1 := initsTo_size hs k (by omega)
    have h2 : ((wordsB s).getD k ⟨#[]⟩).size ≤ 100 := by
      rw [List.getD_eq_getElem?_getD, List.getElem?_eq_getElem (show k < _ by omega)]
      have := wordsB_size (List.getElem_mem (show k < (wordsB s).length by omega))
      simp only [Option.getD_some]
      omega
    have h3 := initB_size ((wordsB s).getD k ⟨#[]⟩)
    rw [initsTo, ByteArray.size_append, ByteArray.size_append]
    have : (⟨#[46, 32]⟩ : ByteArray).size = 2 := rfl
    omega

set_option maxRecDepth 100000 in
set_option maxHeartbeats 3200000 in
theorem sortName_any (s : ByteArray) (w : World) (hs : s.size ≤ 100) (hg : Glob w) :
    Calls Tryd.prog 17 #[.string s] w fun e w' => e = .returned (.string (sortB s)) ∧ All w w' := by
  have HD := Lib.hid (divide_any s w (by omega) hg)
  have hc := cutN_lt s
  have HF := Lib.hid (famB_size hs)
  have HO := Lib.hid (othB_size hs)
  obtain ⟨cn, hcn⟩ : ∃ c, c = cutN s := ⟨_, rfl⟩
  have HC := Lib.hid hcn
  obtain ⟨r, hr⟩ : ∃ r, r = sortB s := ⟨_, rfl⟩
  have HR := Lib.hid hr
  rw [← hr]
  clear hg hr
  go_enter Tryd.func17, Tryd.ntmps17
  go_wp2_with fail
  refine HD.out.mono ?_
  rintro e w1 ⟨b, n, hn, rfl, hat, hw1⟩
  obtain ⟨fm, hfm⟩ : ∃ f, f = famB s := ⟨_, rfl⟩
  obtain ⟨ot, hot⟩ : ∃ f, f = othB s := ⟨_, rfl⟩
  have HJ1 := Lib.hid (fun (wx : World) (k : All w1 wx) => (show Calls Tryd.prog 24 #[.slice (some ⟨b, cutN s, none⟩) (n - cutN s) (n - cutN s), .string sepB] wx fun e w' => e = .returned (.string fm) ∧ All wx w' by
    have h := joinW_any (s := s) wx hs (hat.keep k) (cutN s) (n - cutN s) (n - cutN s) (by omega) (Nat.le_refl _)
    rw [hfm, famB, ← hn]
    exact h))
  have HJ2 := Lib.hid (fun (wx : World) (k : All w1 wx) => (show Calls Tryd.prog 24 #[.slice (some ⟨b, 0, none⟩) (cutN s) n, .string sepB] wx fun e w' => e = .returned (.string ot) ∧ All wx w' by
    have h := joinW_any (s := s) wx hs (hat.keep k) 0 (cutN s) n (by omega) (by omega)
    rw [hot, othB]
    exact h))
  rw [← hcn] at HJ1 HJ2 hc ⊢
  have hzf : fm.size ≤ 10201 := by rw [hfm]; exact HF.out
  have hzo : ot.size ≤ 10201 := by rw [hot]; exact HO.out
  have HS1 := Lib.hid (show 0 < cn → sortB s = fm ++ (⟨#[44, 32]⟩ ++ ot) from fun h => by rw [sortB, if_pos (by rw [← hcn]; exact h), hfm, hot])
  have HS0 := Lib.hid (show ¬ 0 < cn → sortB s = fm from fun h => by rw [sortB, if_neg (by rw [← hcn]; exact h), hfm])
  have h2s : (⟨#[44, 32]⟩ : ByteArray).size = 2 := rfl
  obtain ⟨t1, ht1, hz1, g1⟩ := catRun Tryd.prog ⟨#[44, 32]⟩ ot (by omega)
  obtain ⟨t2, ht2, hz2, g2⟩ := catRun Tryd.prog fm t1 (by omega)
  have HT2 := Lib.hid (show t2 = fm ++ (⟨#[44, 32]⟩ ++ ot) by rw [ht2, ht1])
  clear hn hat HD hfm hot hcn ht1 ht2 hz1 hz2 hzf hzo h2s HF HO
  rw [← HR.out] at HS1 HS0
  go_wp2_with fail
  refine (HJ1.out _ (Kept.refl _ _)).mono ?_
  rintro e w2 ⟨rfl, hw2⟩
  by_cases h0 : 0 < cn
  · have d1 : decide ((0 : Int) < (cn : Int)) = true := by simp; omega
    have HT := Lib.hid (show r = t2 by rw [HS1.out h0, HT2.out])
    go_wp2_with fail
    refine (HJ2.out _ hw2).mono ?_
    rintro e w3 ⟨rfl, hw3⟩
    go_wp2_with fail
    go_ret
    exact ⟨by rw [HT.out]; rfl, (hw1.trans hw2).trans hw3⟩
  · have d1 : decide ((0 : Int) < (cn : Int)) = false := by simp; omega
    have HT := Lib.hid (HS0.out h0)
    go_wp2_with fail
    go_ret
    exact ⟨by rw [HT.out]; rfl, hw1.trans hw2⟩

/-- What SortName and Initials answer. -/
def NamePost (ok : Bool) (t : ByteArray) (w : World) (e : Ending) (w' : World) : Prop := e = .returned (.tuple #[.string (if ok = true then t else ⟨#[]⟩), .int .i64 (if ok = true then 0 else 3)]) ∧ All w w'
theorem lineB_small {s : ByteArray} (h : lineB s 100 = true) : s.size ≤ 100 := by
  unfold lineB at h
  simp at h
  omega
set_option maxHeartbeats 1600000 in
theorem SortName_any (s : ByteArray) (w : World) (hs : s.size ≤ 1000000) (hg : Glob w) :
    Calls Tryd.prog 7 #[.string s] w (NamePost (lineB s 100) (sortB s) w) := by
  have HL := Lib.hid (isLine_any s 100 w hs hg)
  have HG := Lib.hid hg
  cases hl : lineB s 100 with
  | true =>
    have h1 := lineB_small hl
    have HH := Lib.hid hl
    clear hl hg
    go_enter Tryd.func7, Tryd.ntmps7
    go_wp2_with fail
    refine HL.out.mono ?_
    rintro e w1 ⟨rfl, hw1⟩
    rw [HH.out]
    go_wp2_with fail
    refine (sortName_any s _ h1 (HG.out.keep hw1)).mono ?_
    rintro e w2 ⟨rfl, hw2⟩
    go_wp2_with fail
    go_ret2
    exact ⟨rfl, hw1.trans hw2⟩
  | false =>
    have HH := Lib.hid hl
    clear hl hg
    go_enter Tryd.func7, Tryd.ntmps7
    go_wp2_with fail
    refine HL.out.mono ?_
    rintro e w1 ⟨rfl, hw1⟩
    rw [HH.out]
    go_wp2_with fail
    go_ret2
    exact ⟨rfl, hw1⟩

set_option maxRecDepth 100000 in
set_option maxHeartbeats 3200000 in
theorem initials_any (s : ByteArray) (w : World) (hs : s.size ≤ 100) (hg : Glob w) :
    Calls Tryd.prog 18 #[.string s] w fun e w' => e = .returned (.string (initsB s)) ∧ All w w' := by
  have HD := Lib.hid (divide_any s w (by omega) hg)
  have hc := cutN_lt s
  have hmany := wordsB_many s
  have HF := Lib.hid (famB_size hs)
  have HG := Lib.hid hg
  obtain ⟨cn, hcn⟩ : ∃ c, c = cutN s := ⟨_, rfl⟩
  have HC := Lib.hid hcn
  clear hg
  go_enter Tryd.func18, Tryd.ntmps18
  go_wp2_with fail
  refine HD.out.mono ?_
  rintro e w1 ⟨b, n, hn, rfl, hat, hw1⟩
  have HJ1 := Lib.hid (fun (wx : World) (k : All w1 wx) => joinW_any (s := s) wx hs (hat.keep k) (cutN s) (n - cutN s) (n - cutN s) (by omega) (Nat.le_refl _))
  have HE1 := Lib.hid (show catW (((wordsB s).drop (cutN s)).take (n - cutN s)) = famB s by rw [hn]; rfl)
  have HAT := Lib.hid hat
  have HN := Lib.hid hn
  rw [← hcn] at HJ1 HE1 hc ⊢
  have hcs : cn ≤ 101 := by omega
  clear hn hat HD hcn
  go_wp2_with fail
  go_loopw [5, 15] (fun o i wr => ∃ k : Nat, k ≤ cn ∧ i = .int .i64 k ∧ o = .string (initsTo s k) ∧ All w1 wr) (fun _ i _ => cn - (intOf i).toNat)
  case atStart => exact ⟨0, Nat.zero_le _, rfl, rfl, Kept.refl _ _⟩
  case round =>
    obtain ⟨k, hk, rfl, rfl, hwr⟩ := hrel
    obtain ⟨wo, rfl⟩ : ∃ wo : World, wo = wr := ⟨_, rfl⟩
    have hsz := initsTo_size hs k (by omega)
    obtain ⟨o, ho⟩ : ∃ o, o = initsTo s k := ⟨_, rfl⟩
    have HO := Lib.hid ho
    rw [← ho] at hsz ⊢
    clear ho
    by_cases hlt : k < cn
    · have hml : k < (wordsB s).length := by omega
      obtain ⟨x, hx⟩ : ∃ x, (wordsB s)[k]? = some x := ⟨_, List.getElem?_eq_getElem hml⟩
      have c0 := (HAT.out.keep hwr).cell hx
      have hgd : (wordsB s).getD k ⟨#[]⟩ = x := by rw [List.getD_eq_getElem?_getD, hx]; rfl
      have hxz := wordsB_size (List.mem_of_getElem? hx)
      obtain ⟨q, hq⟩ : ∃ q, q = initB x := ⟨_, rfl⟩
      have hqz : q.size ≤ 504 := by rw [hq]; have := initB_size x; omega
      have HI := Lib.hid (show Calls Tryd.prog 29 #[.string x] wo fun e w' => e = .returned (.string q) ∧ All wo w' by rw [hq]; exact initialP_any x wo (by omega) (HG.out.keep (hw1.trans hwr)))
      obtain ⟨t1, ht1, hz1, g1⟩ := catRun Tryd.prog q ⟨#[46, 32]⟩ (by have : (⟨#[46, 32]⟩ : ByteArray).size = 2 := rfl; omega)
      obtain ⟨t2, ht2, hz2, g2⟩ := catRun Tryd.prog o t1 (by rw [hz1]; have : (⟨#[46, 32]⟩ : ByteArray).size = 2 := rfl; omega)
      have HT := Lib.hid (show initsTo s (k + 1) = t2 by rw [initsTo, hgd, ht2, ht1, hq, HO.out])
      clear hx hgd hxz hq hqz ht1 ht2 hz1 hz2 hsz hml
      go_wp2_with fail
      refine HI.out.mono ?_
      rintro e w2 ⟨rfl, hw2⟩
      go_wp2_with fail
      go_roundw
      case rel => exact ⟨k + 1, by omega, by go_num, by rw [HT.out], hwr.trans hw2⟩
      case measure => simp [intOf]; omega
    · have hd : decide ((k : Int) < (cn : Int)) = false := by simp; omega
      have hke : k = cn := by omega
      obtain ⟨fm, hfm⟩ : ∃ f, f = famB s := ⟨_, rfl⟩
      have HFM := Lib.hid hfm
      obtain ⟨t1, ht1, -, g1⟩ := catRun Tryd.prog o fm (by rw [hfm]; have := HF.out; omega)
      have HT := Lib.hid (show initsB s = t1 by rw [initsB, ht1, HO.out, hfm, ← HC.out, hke])
      clear hke hfm ht1 hsz
      go_wp2_with fail
      refine (HJ1.out _ hwr).mono ?_
      rintro e w2 ⟨rfl, hw2⟩
      rw [HE1.out, ← HFM.out]
      go_wp2_with fail
      go_ret
      exact ⟨by rw [HT.out]; rfl, (hw1.trans hwr).trans hw2⟩

set_option maxHeartbeats 1600000 in
theorem Initials_any (s : ByteArray) (w : World) (hs : s.size ≤ 1000000) (hg : Glob w) :
    Calls Tryd.prog 8 #[.string s] w (NamePost (lineB s 100) (initsB s) w) := by
  have HL := Lib.hid (isLine_any s 100 w hs hg)
  have HG := Lib.hid hg
  cases hl : lineB s 100 with
  | true =>
    have h1 := lineB_small hl
    have HH := Lib.hid hl
    clear hl hg
    go_enter Tryd.func8, Tryd.ntmps8
    go_wp2_with fail
    refine HL.out.mono ?_
    rintro e w1 ⟨rfl, hw1⟩
    rw [HH.out]
    go_wp2_with fail
    refine (initials_any s _ h1 (HG.out.keep hw1)).mono ?_
    rintro e w2 ⟨rfl, hw2⟩
    go_wp2_with fail
    go_ret2
    exact ⟨rfl, hw1.trans hw2⟩
  | false =>
    have HH := Lib.hid hl
    clear hl hg
    go_enter Tryd.func8, Tryd.ntmps8
    go_wp2_with fail
    refine HL.out.mono ?_
    rintro e w1 ⟨rfl, hw1⟩
    rw [HH.out]
    go_wp2_with fail
    go_ret2
    exact ⟨rfl, hw1⟩
end Go.Proofs.YtbpbhpmkganefaaDoor
