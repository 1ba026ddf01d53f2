/- CheckBallots and BallotsFault answer ballotsF. -/
import Derived.Test.YteanedcfiellkaaDoorPd
namespace Go.Proofs.YteanedcfiellkaaDoor
open Go.RowKit

/-- Element k of a slice of ballots. -/
theorem Sl.atBal {F : Nat → Prop} {w : World} {a : Option Addr} {len : Nat} {bs : List Bal} (h : Sl RBal 2 F w a len bs) {k : Nat} (hk : k < len) :
    ∃ b off x ar cr, a = some ⟨b, off, none⟩ ∧ F b ∧ w.cell? ⟨b, off + k * 2, none⟩ = some (.int .i64 x.many) ∧ w.cell? ⟨b, off + k * 2 + 1, none⟩ = some (.slice ar x.ranks.length cr) ∧ x.ranks.length ≤ cr ∧ Sl RStr 1 F w ar x.ranks.length x.ranks ∧
      bs[k]? = some x ∧ x ∈ bs := by
  obtain ⟨b, off, vs, y, ha, hF, h1, h2, ⟨ar, cr, rfl, hcr, h3⟩, h4, h5, h6⟩ := h.at hk
  refine ⟨b, off, y, ar, cr, ha, hF, by simpa using h2 0 (by simp), by simpa using h2 1 (by simp), hcr, h3, h4, List.mem_of_getElem? h4⟩

theorem sumF_append (a b : List Bal) : sumF (a ++ b) = sumF a + sumF b := by
  induction a with
  | nil => simp [sumF]
  | cons x l ih => simp only [List.cons_append, sumF, ih]; omega
theorem sumF_take {bs : List Bal} {k : Nat} {x : Bal} (h : bs[k]? = some x) : sumF (bs.take (k + 1)) = sumF (bs.take k) + x.many := by
  obtain ⟨hk, rfl⟩ := List.getElem?_eq_some_iff.1 h
  rw [List.take_succ_eq_append_getElem hk, sumF_append]
  simp [sumF]

/-- What is known of numbers that are added up. -/
def SumOk (bs : List Bal) : Prop := bs.length ≤ 300 ∧ ∀ x ∈ bs, -2000000000000 ≤ x.many ∧ x.many ≤ 2000000000000
theorem SumOk.take {bs : List Bal} (h : SumOk bs) : ∀ k, k ≤ 300 → -2000000000000 * k ≤ sumF (bs.take k) ∧ sumF (bs.take k) ≤ 2000000000000 * k := by
  intro k hk
  induction k with
  | zero => simp [sumF]
  | succ k ih =>
    have ih := ih (by omega)
    by_cases hl : k < bs.length
    · have hx := List.getElem?_eq_getElem hl
      rw [sumF_take hx]
      have := h.2 _ (List.getElem_mem hl)
      omega
    · rw [List.take_of_length_le (by omega)] at ih ⊢
      omega

set_option maxHeartbeats 800000 in
theorem votes_any (a : Option Addr) (len cap : Nat) (bs : List Bal) (w : World) (hs : Sl RBal 2 (fun _ => True) w a len bs) (hl : SumOk bs) :
    Calls Tryd.prog 68 #[.slice a len cap] w fun e w' => e = .returned (.int .i64 (sumF bs)) ∧ All w w' := by
  have hlen := hs.len
  have hl3 := hl.1
  go_enter Tryd.func68, Tryd.ntmps68
  go_wp2
  go_loopw [3, 8] (fun n i wr => ∃ k : Nat, k ≤ len ∧ i = .int .i64 k ∧ n = .int .i64 (sumF (bs.take k)) ∧ All w wr) (fun _ i _ => len - (intOf i).toNat)
  case atStart => exact ⟨0, Nat.zero_le _, rfl, rfl, Kept.refl _ _⟩
  case round =>
    obtain ⟨k, hk, rfl, rfl, hall⟩ := hrel
    by_cases hlt : k < len
    · obtain ⟨b, off, x, ar, cr, ha, hF, c0, c1, hcr, hr, hx, hm⟩ := (hs.keep RBal.ok hall).atBal hlt
      subst ha
      have hb := hl.take k (by omega)
      have hxb := hl.2 x hm
      have hsum := Lib.hid (sumF_take hx)
      obtain ⟨hb1, hb2⟩ := hb
      obtain ⟨hx1, hx2⟩ := hxb
      have hb3 : -600000000000000 ≤ sumF (bs.take k) := by omega
      have hb4 : sumF (bs.take k) ≤ 600000000000000 := by omega
      clear hs hr hl hb1 hb2
      go_wp2_with fail
      go_roundw
      case rel => exact ⟨k + 1, by omega, by go_num, by rw [hsum.out], hall.then_alloc _⟩
      case measure => simp [intOf]; omega
    · have hd : decide ((k : Int) < (len : Int)) = false := by simp; omega
      have hfin : bs.take k = bs := List.take_of_length_le (by omega)
      rw [hfin]
      go_wp2_with fail
      go_ret
      exact ⟨rfl, hall⟩

def BalAt (noms : List ByteArray) (bs : List Bal) (k : Nat) : Prop := balsF noms bs = balsF noms (bs.drop k)
def RankAt (noms rs : List ByteArray) (j : Nat) : Prop := ranksF noms [] rs = ranksF noms (rs.take j) (rs.drop j)
theorem ranksF_cons (noms before : List ByteArray) (r : ByteArray) (l : List ByteArray) : ranksF noms before (r :: l) = if memB r noms = false then 8 else if memB r before = true then 6 else ranksF noms (before ++ [r]) l := rfl
theorem balsF_cons (noms : List ByteArray) (b : Bal) (l : List Bal) : balsF noms (b :: l) = if b.many < 1 ∨ 1000 < b.many then 1 else if ranksF noms [] b.ranks ≠ 0 then ranksF noms [] b.ranks else balsF noms l := rfl
theorem RankAt.none {noms rs : List ByteArray} {j : Nat} {y : ByteArray} (h : RankAt noms rs j) (hy : rs[j]? = some y) (hn : memB y noms = false) : ranksF noms [] rs = 8 := by
  rw [h, drop_at hy, ranksF_cons, if_pos hn]
theorem RankAt.twice {noms rs : List ByteArray} {j : Nat} {y : ByteArray} (h : RankAt noms rs j) (hy : rs[j]? = some y) (hn : memB y noms = true) (ht : memB y (rs.take j) = true) : ranksF noms [] rs = 6 := by
  rw [h, drop_at hy, ranksF_cons, if_neg (by simp [hn]), if_pos ht]
theorem RankAt.next {noms rs : List ByteArray} {j : Nat} {y : ByteArray} (h : RankAt noms rs j) (hy : rs[j]? = some y) (hn : memB y noms = true) (ht : memB y (rs.take j) = false) : RankAt noms rs (j + 1) := by
  unfold RankAt at *
  obtain ⟨hk, rfl⟩ := List.getElem?_eq_some_iff.1 hy
  rw [h, drop_at hy, ranksF_cons, if_neg (by simp [hn]), if_neg (by simp [ht]), List.take_succ_eq_append_getElem hk]
theorem RankAt.ok {noms rs : List ByteArray} {j : Nat} (h : RankAt noms rs j) (hj : rs.length ≤ j) : ranksF noms [] rs = 0 := by
  rw [h, List.drop_of_length_le hj]; rfl
theorem BalAt.arg {noms : List ByteArray} {bs : List Bal} {k : Nat} {x : Bal} (h : BalAt noms bs k) (hx : bs[k]? = some x) (hm : x.many < 1 ∨ 1000 < x.many) : balsF noms bs = 1 := by
  rw [h, drop_at hx, balsF_cons, if_pos hm]
theorem BalAt.ranks {noms : List ByteArray} {bs : List Bal} {k : Nat} {x : Bal} {e : Int} (h : BalAt noms bs k) (hx : bs[k]? = some x) (hm : ¬ (x.many < 1 ∨ 1000 < x.many)) (hr : ranksF noms [] x.ranks = e) (he : e ≠ 0) : balsF noms bs = e := by
  rw [h, drop_at hx, balsF_cons, if_neg hm, hr, if_pos he]
theorem BalAt.next {noms : List ByteArray} {bs : List Bal} {k : Nat} {x : Bal} (h : BalAt noms bs k) (hx : bs[k]? = some x) (hm : ¬ (x.many < 1 ∨ 1000 < x.many)) (hr : ranksF noms [] x.ranks = 0) : BalAt noms bs (k + 1) := by
  unfold BalAt at *
  rw [h, drop_at hx, balsF_cons, if_neg hm, hr, if_neg (by simp)]
theorem BalAt.ok {noms : List ByteArray} {bs : List Bal} {k : Nat} (h : BalAt noms bs k) (hk : bs.length ≤ k) : balsF noms bs = 0 := by
  rw [h, List.drop_of_length_le hk]; rfl
theorem ballotsF_nom {noms : List ByteArray} {bs : List Bal} (h : nomF noms ≠ 0) : ballotsF noms bs = nomF noms := by rw [ballotsF, if_pos h]
theorem ballotsF_large {noms : List ByteArray} {bs : List Bal} (h : nomF noms = 0) (hl : 300 < bs.length) : ballotsF noms bs = 2 := by rw [ballotsF, if_neg (by simp [h]), if_pos hl]
theorem ballotsF_bal {noms : List ByteArray} {bs : List Bal} {e : Int} (h : nomF noms = 0) (hl : ¬ 300 < bs.length) (hb : balsF noms bs = e) (he : e ≠ 0) : ballotsF noms bs = e := by rw [ballotsF, if_neg (by simp [h]), if_neg hl, hb, if_pos he]
theorem ballotsF_sum {noms : List ByteArray} {bs : List Bal} (h : nomF noms = 0) (hl : ¬ 300 < bs.length) (hb : balsF noms bs = 0) : ballotsF noms bs = if 1000 < sumF bs then 2 else 0 := by rw [ballotsF, if_neg (by simp [h]), if_neg hl, hb, if_neg (by simp)]

set_option maxRecDepth 100000 in
set_option maxHeartbeats 3200000 in
theorem checkBallots_any (an : Option Addr) (ln cn : Nat) (noms : List ByteArray) (ab : Option Addr) (lb cb : Nat) (bs : List Bal) (w : World)
    (hn : Sl RStr 1 (fun _ => True) w an ln noms) (hb : Sl RBal 2 (fun _ => True) w ab lb bs) (hln : ln ≤ 1000000) (hlb : lb ≤ 1000000) (hbr : ∀ x ∈ bs, x.ranks.length ≤ 1000000) :
    Calls Tryd.prog 15 #[.slice an ln cn, .slice ab lb cb] w fun e w' => e = .returned (.int .i64 (ballotsF noms bs)) ∧ All w w' := by
  have hlen := hb.len
  by_cases hnom : nomF noms = 0
  · have hnb : (nomF noms != 0) = false := by simp [hnom]
    by_cases h300 : 300 < lb
    · have hfin := Lib.hid (ballotsF_large (bs := bs) hnom (by omega))
      have hd : decide ((300 : Int) < (lb : Int)) = true := by simp; omega
      rw [hfin.out]
      clear hlen
      go_enter Tryd.func15, Tryd.ntmps15
      go_wp2_with fail
      refine (nomineesFault_any an ln cn noms _ hn hln).mono ?_
      rintro e w' ⟨rfl, rfl⟩
      rw [hnom]
      go_wp2
      go_ret
      exact ⟨rfl, Kept.refl _ _⟩
    · have hd : decide ((300 : Int) < (lb : Int)) = false := by simp; omega
      have hnl : ¬ 300 < bs.length := by omega
      have Hnom := Lib.hid hnom
      have Hlen := Lib.hid hlen
      clear hlen hnb
      go_enter Tryd.func15, Tryd.ntmps15
      go_wp2_with fail
      refine (nomineesFault_any an ln cn noms _ hn hln).mono ?_
      rintro e w' ⟨rfl, rfl⟩
      rw [hnom]
      clear hnom
      go_wp2_with fail
      go_loopw [6, 21] (fun n i wr => ∃ k : Nat, k ≤ lb ∧ i = .int .i64 k ∧ n = .int .i64 (sumF (bs.take k)) ∧ 0 ≤ sumF (bs.take k) ∧ sumF (bs.take k) ≤ 1000 * k ∧ BalAt noms bs k ∧ All w wr) (fun _ i _ => lb - (intOf i).toNat)
      case atStart => exact ⟨0, Nat.zero_le _, rfl, rfl, by simp [sumF], by simp [sumF], by simp [BalAt], Kept.refl _ _⟩
      case round =>
        obtain ⟨k, hk, rfl, rfl, hs0, hs1, hat, hall⟩ := hrel
        obtain ⟨wo, rfl⟩ : ∃ wo : World, wo = wr := ⟨_, rfl⟩
        by_cases hlt : k < lb
        · obtain ⟨b, off, x, ar, cr, ha, hF, c0, c1, hcr, hr, hx, hm⟩ := (hb.keep RBal.ok hall).atBal hlt
          subst ha
          have hxr := hbr x hm
          by_cases hout : x.many < 1 ∨ 1000 < x.many
          · have hfin := Lib.hid (ballotsF_bal Hnom.out hnl (hat.arg hx hout) (by decide))
            have hdo : decide (x.many < 1 ∨ 1000 < x.many) = true := by simpa using hout
            clear hout
            go_wp2_with fail
            refine (outside_any _ _ _ _).mono ?_
            rintro e w' ⟨rfl, rfl⟩
            rw [hdo]
            go_wp2_with fail
            go_ret
            exact ⟨ret_int' hfin.out.symm, hall.then_alloc _⟩
          · have hdo : decide (x.many < 1 ∨ 1000 < x.many) = false := by simpa using hout
            have hm1 : 1 ≤ x.many := by omega
            have hm2 : x.many ≤ 1000 := by omega
            have Hout := Lib.hid hout
            have Hsum := Lib.hid (sumF_take hx)
            have hb1 : sumF (bs.take k) ≤ 300000 := by omega
            clear hout
            go_wp2_with fail
            refine (outside_any _ _ _ _).mono ?_
            rintro e w' ⟨rfl, rfl⟩
            rw [hdo]
            go_wp2_with fail
            have hnr : Sl RStr 1 (fun _ => True) (wo.alloc (.cells #[.int .i64 x.many, .slice ar x.ranks.length cr] 96)) an ln noms := (hn.keep RStr.ok hall).keep RStr.ok (Kept.alloc _ _ _)
            have hrr : Sl RStr 1 (fun _ => True) (wo.alloc (.cells #[.int .i64 x.many, .slice ar x.ranks.length cr] 96)) ar x.ranks.length x.ranks := hr.keep RStr.ok (Kept.alloc _ _ _)
            have hallr := hall.then_alloc (.cells #[.int .i64 x.many, .slice ar x.ranks.length cr] 96)
            have hblk := heap_at wo (.cells #[.int .i64 x.many, .slice ar x.ranks.length cr] 96) _ rfl
            have d1 := cell_at (i := 1) hblk rfl
            clear hall hr c0 c1
            generalize wo.alloc (.cells #[.int .i64 x.many, .slice ar x.ranks.length cr] 96) = wa at *
            go_loop [9, 10, 35] (fun _ _ c => ∃ j : Nat, j ≤ x.ranks.length ∧ c = .int .i64 j ∧ RankAt noms x.ranks j) (fun _ _ c => x.ranks.length - (intOf c).toNat)
            case atStart => exact ⟨0, Nat.zero_le _, rfl, by simp [RankAt]⟩
            case round =>
              obtain ⟨j, hj, rfl, hrk⟩ := hrel
              by_cases hjl : j < x.ranks.length
              · obtain ⟨br, ofr, y, har, _, hcy, hyz, hy, -, -⟩ := hrr.atStr hjl
                have htk : Sl RStr 1 (fun _ => True) wa ar j (x.ranks.take j) := hrr.take (by omega)
                subst har
                cases hmem : memB y noms with
                | false =>
                  have hfin := Lib.hid (ballotsF_bal Hnom.out hnl (hat.ranks hx Hout.out (hrk.none hy hmem) (by decide)) (by decide))
                  go_wp2_with fail
                  refine (contains_any an ln cn noms y _ hnr hln).mono ?_
                  rintro e w' ⟨rfl, rfl⟩
                  rw [hmem]
                  go_wp2_with fail
                  go_ret
                  exact ⟨ret_int' hfin.out.symm, hallr⟩
                | true =>
                  cases htw : memB y (x.ranks.take j) with
                  | true =>
                    have hfin := Lib.hid (ballotsF_bal Hnom.out hnl (hat.ranks hx Hout.out (hrk.twice hy hmem htw) (by decide)) (by decide))
                    go_wp2_with fail
                    refine (contains_any an ln cn noms y _ hnr hln).mono ?_
                    rintro e w' ⟨rfl, rfl⟩
                    rw [hmem]
                    go_wp2_with fail
                    refine (contains_any _ j cr (x.ranks.take j) y _ htk (by omega)).mono ?_
                    rintro e w' ⟨rfl, rfl⟩
                    rw [htw]
                    go_wp2_with fail
                    go_ret
                    exact ⟨ret_int' hfin.out.symm, hallr⟩
                  | false =>
                    have hnx := hrk.next hy hmem htw
                    go_wp2_with fail
                    refine (contains_any an ln cn noms y _ hnr hln).mono ?_
                    rintro e w' ⟨rfl, rfl⟩
                    rw [hmem]
                    go_wp2_with fail
                    refine (contains_any _ j cr (x.ranks.take j) y _ htk (by omega)).mono ?_
                    rintro e w' ⟨rfl, rfl⟩
                    rw [htw]
                    go_wp2_with fail
                    go_round
                    case rel => exact ⟨j + 1, by omega, by go_num, hnx⟩
                    case measure => simp [intOf]; omega
              · have hdj : decide ((j : Int) < (x.ranks.length : Int)) = false := by simp; omega
                have hnx := hat.next hx Hout.out (hrk.ok (by omega))
                go_wp2_with fail
                go_roundw
                case rel => exact ⟨k + 1, by omega, by go_num, by rw [Hsum.out], by rw [Hsum.out]; omega, by rw [Hsum.out]; omega, hnx, hallr⟩
                case measure => simp [intOf]; omega
        · have hdk : decide ((k : Int) < (lb : Int)) = false := by simp; omega
          have hfin := ballotsF_sum Hnom.out hnl (hat.ok (by have := Hlen.out; omega))
          have htk : bs.take k = bs := List.take_of_length_le (by have := Hlen.out; omega)
          rw [htk] at hs0 hs1 ⊢
          by_cases h1000 : 1000 < sumF bs
          · rw [if_pos h1000] at hfin
            have Hfin := Lib.hid hfin
            clear hfin
            go_wp2_with fail
            go_ret
            exact ⟨ret_int' Hfin.out.symm, hall⟩
          · rw [if_neg h1000] at hfin
            have Hfin := Lib.hid hfin
            clear hfin
            go_wp2_with fail
            go_ret
            exact ⟨ret_int' Hfin.out.symm, hall⟩
  · have hnb : (nomF noms != 0) = true := by simp [hnom]
    rw [ballotsF_nom hnom]
    clear hlen hnom
    go_enter Tryd.func15, Tryd.ntmps15
    go_wp2_with fail
    refine (nomineesFault_any an ln cn noms _ hn hln).mono ?_
    rintro e w' ⟨rfl, rfl⟩
    go_wp2
    go_ret
    exact ⟨rfl, Kept.refl _ _⟩
end Go.Proofs.YteanedcfiellkaaDoor
