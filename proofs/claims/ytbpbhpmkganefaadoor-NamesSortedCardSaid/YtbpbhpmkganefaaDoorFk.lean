/- initial, by bytes and by runes. -/
import Derived.Test.YtbpbhpmkganefaaDoorFj
namespace Go.Proofs.YtbpbhpmkganefaaDoor
open Go.RowKit

/-- Strings put together. -/
theorem catRun (P : Program) (a b : ByteArray) (h : a.size + b.size ≤ 9223372036854775807) : ∃ t : ByteArray, t = a ++ b ∧ t.size = a.size + b.size ∧ ∀ wx : World, (Op.stringOp .add a b).run P wx = .ok (.string t) wx :=
  ⟨_, rfl, ByteArray.size_append, fun wx => run_string_add_sum wx a b h⟩
/-- What stands behind place i of a word. -/
def pieceP (l : List UInt8) (i : Nat) : List UInt8 := if l[i]? = some 45 ∧ i + 1 < l.length then 45 :: firstP (l.drop (i + 1)) else []
def uptoP (l : List UInt8) : Nat → List UInt8
  | 0 => []
  | i + 1 => uptoP l i ++ pieceP l i
theorem pieceP_cons (b : UInt8) (t : List UInt8) (i : Nat) : pieceP (b :: t) (i + 1) = pieceP t i := by
  unfold pieceP
  simp only [List.getElem?_cons_succ, List.length_cons, List.drop_succ_cons, Nat.add_lt_add_iff_right]
theorem uptoP_cons (b : UInt8) (t : List UInt8) : ∀ i, uptoP (b :: t) (i + 1) = (if b = 45 ∧ t ≠ [] then 45 :: firstP t else []) ++ uptoP t i
  | 0 => by
    show [] ++ pieceP (b :: t) 0 = _ ++ []
    unfold pieceP
    rw [List.nil_append, List.append_nil]
    by_cases h : b = 45 ∧ t ≠ []
    · rw [if_pos h, if_pos ⟨by simp [h.1], by have := List.length_pos_iff.2 h.2; simp; omega⟩]
      rfl
    · rw [if_neg h, if_neg (fun e => h ⟨by simpa using e.1, fun e2 => by simp [e2] at e⟩)]
  | i + 1 => by
    rw [uptoP, uptoP_cons b t i, pieceP_cons, List.append_assoc]
    rfl
theorem uptoP_all : ∀ l : List UInt8, uptoP l l.length = scanP l
  | [] => rfl
  | b :: t => by rw [List.length_cons, uptoP_cons, uptoP_all t, scanP]
theorem uptoP_last (l : List UInt8) : uptoP l (l.length - 1) = scanP l := by
  rw [← uptoP_all l]
  cases hl : l.length with
  | zero => rfl
  | succ n =>
    rw [Nat.add_sub_cancel, uptoP]
    unfold pieceP
    rw [if_neg (by omega), List.append_nil]
theorem firstP_len (l : List UInt8) : (firstP l).length ≤ 4 := by
  unfold firstP
  rw [List.length_take]
  have h := Lib.decodeL_N l
  have h4 : (Lib.decodeL l).2 ≤ 4 := by
    rw [h]
    rcases Lib.decodeN_shape l.length (l.getD 0 0).toNat (l.getD 1 0).toNat (l.getD 2 0).toNat (l.getD 3 0).toNat with ⟨_, e⟩ | ⟨_, _, _, _, e⟩ | ⟨_, _, _, _, _, _, e⟩ | ⟨_, _, _, _, _, _, _, e⟩ | e <;> rw [e] <;> simp
  omega
theorem uptoP_len (l : List UInt8) : ∀ i, (uptoP l i).length ≤ 5 * i
  | 0 => by simp [uptoP]
  | i + 1 => by
    have h1 := uptoP_len l i
    have h2 := firstP_len (l.drop (i + 1))
    rw [uptoP, List.length_append]
    unfold pieceP
    split
    · rw [List.length_cons]; omega
    · simp; omega
def initB (s : ByteArray) : ByteArray := ⟨(firstP s.data.toList ++ scanP s.data.toList).toArray⟩
def initTo (s : ByteArray) (i : Nat) : ByteArray := ⟨(firstP s.data.toList ++ uptoP s.data.toList i).toArray⟩
theorem initTo_size (s : ByteArray) (i : Nat) : (initTo s i).size ≤ 4 + 5 * i := by
  have h1 := firstP_len s.data.toList
  have h2 := uptoP_len s.data.toList i
  rw [Lib.size_eq]
  simp only [initTo, List.length_append]
  omega
theorem initTo_zero (s : ByteArray) : initTo s 0 = ⟨(firstP s.data.toList).toArray⟩ := by simp [initTo, uptoP]
theorem initTo_all (s : ByteArray) : initTo s (s.size - 1) = initB s := by
  unfold initTo initB
  rw [Lib.size_eq, uptoP_last]
theorem ba_append (a b : List UInt8) : (⟨a.toArray⟩ : ByteArray) ++ ⟨b.toArray⟩ = ⟨(a ++ b).toArray⟩ := by
  apply ByteArray.ext
  simp
theorem initTo_hit {s : ByteArray} {i : Nat} (h : s.data.toList[i]? = some 45) (hi : i + 1 < s.size) : initTo s (i + 1) = initTo s i ++ (⟨#[45]⟩ ++ ⟨(firstP (s.data.toList.drop (i + 1))).toArray⟩) := by
  unfold initTo
  rw [uptoP, pieceP, if_pos ⟨h, by rw [← Lib.size_eq]; exact hi⟩, show (⟨#[45]⟩ : ByteArray) = ⟨[45].toArray⟩ from rfl, ba_append, ba_append, List.append_assoc]
  rfl
theorem initTo_miss {s : ByteArray} {i : Nat} (h : ¬ s.data.toList[i]? = some 45) : initTo s (i + 1) = initTo s i := by
  unfold initTo
  rw [uptoP, pieceP, if_neg (fun e => h e.1), List.append_nil]

set_option maxHeartbeats 3200000 in
theorem initialP_any (s : ByteArray) (w : World) (hs : s.size ≤ 1000000) (hg : Glob w) :
    Calls Tryd.prog 29 #[.string s] w fun e w' => e = .returned (.string (initB s)) ∧ All w w' := by
  have HF := Lib.hid (fun (wx : World) (k : All w wx) (t : ByteArray) => firstPoint_any t wx (hg.keep k))
  have HE := Lib.hid (initTo_all s)
  have HZ := Lib.hid (initTo_zero s)
  clear hg
  have f0 : IntKind.i64.wrap ((s.size : Int) - 1) = (s.size : Int) - 1 := IntWalk.i64_in _ (by omega)
  go_enter Tryd.func29, Tryd.ntmps29
  go_wp2_with fail
  refine (HF.out _ (Kept.refl _ _) s).mono ?_
  rintro e w1 ⟨rfl, hw1⟩
  rw [← HZ.out]
  go_wp2_with fail
  go_loopw [3, 4] (fun o i wr => ∃ k : Nat, k ≤ s.size - 1 ∧ i = .int .i64 k ∧ o = .string (initTo s k) ∧ All w wr) (fun _ i _ => s.size - (intOf i).toNat)
  case atStart => exact ⟨0, Nat.zero_le _, rfl, rfl, hw1⟩
  case round =>
    obtain ⟨k, hk, rfl, rfl, hwr⟩ := hrel
    obtain ⟨wo, rfl⟩ : ∃ wo : World, wo = wr := ⟨_, rfl⟩
    have hsz := initTo_size s k
    by_cases hlt : k + 1 < s.size
    · have d1 : decide ((k : Int) < (s.size : Int) - 1) = true := by simp; omega
      have hks : k < s.size := by omega
      obtain ⟨o, ho⟩ : ∃ o, o = initTo s k := ⟨_, rfl⟩
      have HO := Lib.hid ho
      rw [← ho] at hsz ⊢
      have f1 : IntKind.i64.wrap ((k : Int) + 1) = ((k + 1 : Nat) : Int) := by rw [IntWalk.i64_in _ (by omega)]; omega
      have hat : s.data.toList[k]? = some s[k] := by rw [Array.getElem?_toList, Array.getElem?_eq_getElem (show k < s.data.size from hks)]; rfl
      by_cases h45 : s[k] = 45
      · have d2 : ((s[k].toNat : Int) == 45) = true := by rw [h45]; rfl
        have hN := initTo_hit (s := s) (i := k) (by rw [hat, h45]) hlt
        obtain ⟨t, ht⟩ : ∃ t, t = s.extract (k + 1) s.size := ⟨_, rfl⟩
        have HT := Lib.hid ht
        have htl : t.data.toList = s.data.toList.drop (k + 1) := by rw [ht]; exact Lib.extract_to_end _ _
        obtain ⟨q, hq⟩ : ∃ q : ByteArray, q = ⟨(firstP t.data.toList).toArray⟩ := ⟨_, rfl⟩
        have hqz : q.size ≤ 4 := by rw [hq, Lib.size_eq]; simpa using firstP_len _
        have HQ := Lib.hid (fun (wx : World) (kx : All w wx) => (show Calls Tryd.prog 46 #[.string t] wx fun e w' => e = .returned (.string q) ∧ All wx w' by rw [hq]; exact HF.out wx kx t))
        rw [← htl, ← hq, ← ho] at hN
        obtain ⟨t1, ht1, hz1, g1⟩ := catRun Tryd.prog ⟨#[45]⟩ q (by have : (⟨#[45]⟩ : ByteArray).size = 1 := rfl; omega)
        obtain ⟨t2, ht2, hz2, g2⟩ := catRun Tryd.prog o t1 (by rw [hz1]; have : (⟨#[45]⟩ : ByteArray).size = 1 := rfl; omega)
        have HN := Lib.hid (show initTo s (k + 1) = t2 by rw [hN, ht2, ht1])
        have f2 : (0 : Int) ≤ ((k + 1 : Nat) : Int) := by omega
        have f3 : ((k + 1 : Nat) : Int) ≤ (s.size : Int) := by omega
        clear hat h45 hN ht htl hq ht1 ht2 hz1 hz2 hqz hsz ho
        go_wp2_with fail
        rw [← HT.out]
        refine (HQ.out _ hwr).mono ?_
        rintro e w2 ⟨rfl, hw2⟩
        have hk2 := hwr.trans hw2
        go_wp2_with fail
        go_roundw
        case rel => exact ⟨k + 1, by omega, by go_num, by rw [HN.out], hk2⟩
        case measure => simp [intOf]; omega
      · have d2 : ((s[k].toNat : Int) == 45) = false := by
          rw [beq_eq_false_iff_ne]
          intro e
          apply h45
          apply UInt8.toNat_inj.1
          have : (45 : UInt8).toNat = 45 := rfl
          omega
        have HN := Lib.hid (show initTo s (k + 1) = o by rw [initTo_miss (by rw [hat]; intro e; exact h45 (Option.some.inj e)), HO.out])
        clear hat h45 hsz ho
        go_wp2_with fail
        go_roundw
        case rel => exact ⟨k + 1, by omega, by go_num, by rw [HN.out], hwr⟩
        case measure => simp [intOf]; omega
    · have d1 : decide ((k : Int) < (s.size : Int) - 1) = false := by simp; omega
      have hke : k = s.size - 1 := by omega
      have HK := Lib.hid (show initTo s k = initB s by rw [hke]; exact HE.out)
      clear hke
      go_wp2_with fail
      go_ret
      exact ⟨by rw [HK.out]; rfl, hwr⟩

/-- Runes, each as its bytes. -/
noncomputable def encsL (cs : List Nat) : List UInt8 := (encN (cs.headD 0)).data.toList ++ scanR cs
theorem init_runes {s : ByteArray} {cs : List Nat} (h : Good s.data.toList cs) (hne : s.data.toList ≠ []) : initB s = ⟨(encsL cs).toArray⟩ := by
  unfold initB encsL
  rw [good_scan h]
  cases cs with
  | nil => exact absurd ((good_nil h).2 rfl) hne
  | cons c cs => rw [good_first h, List.headD_cons]
/-- What stands behind rune i. -/
noncomputable def pieceR (cs : List Nat) (i : Nat) : List UInt8 := if cs[i]? = some 45 then hyph (cs.drop (i + 1)) else []
noncomputable def uptoR (cs : List Nat) : Nat → List UInt8
  | 0 => []
  | i + 1 => uptoR cs i ++ pieceR cs i
theorem uptoR_cons (c : Nat) (t : List Nat) : ∀ i, uptoR (c :: t) (i + 1) = (if c = 45 then hyph t else []) ++ uptoR t i
  | 0 => by
    show [] ++ pieceR (c :: t) 0 = _ ++ []
    unfold pieceR
    rw [List.nil_append, List.append_nil]
    by_cases h : c = 45 <;> simp [h]
  | i + 1 => by
    rw [uptoR, uptoR_cons c t i, List.append_assoc]
    congr 1
theorem uptoR_all : ∀ cs : List Nat, uptoR cs cs.length = scanR cs
  | [] => rfl
  | c :: t => by rw [List.length_cons, uptoR_cons, uptoR_all t, scanR]
end Go.Proofs.YtbpbhpmkganefaaDoor
