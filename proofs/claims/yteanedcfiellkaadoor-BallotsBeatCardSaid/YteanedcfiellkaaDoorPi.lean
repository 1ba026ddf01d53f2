/- Beats, Winner and WinnerOf, with their closures. -/
import Derived.Test.YteanedcfiellkaaDoorPh
namespace Go.Proofs.YteanedcfiellkaaDoor
open Go.RowKit

/-- Nominees and ballots, as they lie in memory. -/
structure Votes (w : World) (an : Option Addr) (ln : Nat) (noms : List ByteArray) (ab : Option Addr) (lb : Nat) (bs : List Bal) : Prop where
  hn : Sl RStr 1 (fun _ => True) w an ln noms
  hb : Sl RBal 2 (fun _ => True) w ab lb bs
  hln : ln ≤ 1000000
  hlb : lb ≤ 1000000
  sum : SumOk bs
  hbr : ∀ x ∈ bs, x.ranks.length ≤ 1000000
theorem Votes.keep {w w' : World} {an : Option Addr} {ln : Nat} {noms : List ByteArray} {ab : Option Addr} {lb : Nat} {bs : List Bal} (h : Votes w an ln noms ab lb bs) (k : All w w') : Votes w' an ln noms ab lb bs :=
  ⟨h.hn.keep RStr.ok k, h.hb.keep RBal.ok k, h.hln, h.hlb, h.sum, h.hbr⟩

noncomputable def beatsE (noms : List ByteArray) (bs : List Bal) (x y : ByteArray) : Int := if ballotsF noms bs ≠ 0 then ballotsF noms bs else if memB x noms = false ∨ memB y noms = false then 8 else 0
noncomputable def beatsM (noms : List ByteArray) (bs : List Bal) (x y : ByteArray) : Int := if beatsE noms bs x y = 0 then beatsF x y bs else 0

theorem ret_int2 {a b c d : Int} (h : a = b) (h2 : c = d) : Ending.returned (.tuple #[.int .i64 a, .int .i64 c]) = .returned (.tuple #[.int .i64 b, .int .i64 d]) := by rw [h, h2]

set_option maxHeartbeats 800000 in
theorem Beats_any (an : Option Addr) (ln cn : Nat) (noms : List ByteArray) (ab : Option Addr) (lb cb : Nat) (bs : List Bal) (x y : ByteArray) (w : World) (h : Votes w an ln noms ab lb bs) :
    Calls Tryd.prog 20 #[.slice an ln cn, .slice ab lb cb, .string x, .string y] w fun e w' => e = .returned (.tuple #[.int .i64 (beatsM noms bs x y), .int .i64 (beatsE noms bs x y)]) ∧ All w w' := by
  have HC := Lib.hid (checkBallots_any an ln cn noms ab lb cb bs w h.hn h.hb h.hln h.hlb h.hbr)
  have hX := fun (v : ByteArray) (wx : World) (hw : All w wx) => contains_any (F := fun _ => True) an ln cn noms v wx ((h.keep hw).hn) h.hln
  have HX := Lib.hid hX
  have hB := fun (wx : World) (hw : All w wx) => beats_any ab lb cb bs x y wx ((h.keep hw).hb) h.sum h.hbr
  have HB := Lib.hid hB
  clear hX hB h
  by_cases h0 : ballotsF noms bs = 0
  · have hb0 : (ballotsF noms bs != 0) = false := by simp [h0]
    cases hx : memB x noms with
    | false =>
      have he : beatsE noms bs x y = 8 := by unfold beatsE; rw [if_neg (by simp [h0]), if_pos (Or.inl hx)]
      have hm : beatsM noms bs x y = 0 := by unfold beatsM; rw [if_neg (by rw [he]; decide)]
      rw [he, hm]
      have Hx := Lib.hid hx
      have H0 := Lib.hid h0
      clear he hm hx hb0 h0
      go_enter Tryd.func20, Tryd.ntmps20
      go_wp2_with fail
      refine HC.out.mono ?_
      rintro e w1 ⟨rfl, hw1⟩
      rw [H0.out]
      go_wp2_with fail
      refine (HX.out x _ hw1).mono ?_
      rintro e w' ⟨rfl, rfl⟩
      rw [Hx.out]
      go_wp2_with fail
      go_ret2
      exact ⟨rfl, hw1⟩
    | true =>
      cases hy : memB y noms with
      | false =>
        have he : beatsE noms bs x y = 8 := by unfold beatsE; rw [if_neg (by simp [h0]), if_pos (Or.inr hy)]
        have hm : beatsM noms bs x y = 0 := by unfold beatsM; rw [if_neg (by rw [he]; decide)]
        rw [he, hm]
        have Hx := Lib.hid hx
        have Hy := Lib.hid hy
        have H0 := Lib.hid h0
        clear he hm hx hy hb0 h0
        go_enter Tryd.func20, Tryd.ntmps20
        go_wp2_with fail
        refine HC.out.mono ?_
        rintro e w1 ⟨rfl, hw1⟩
        rw [H0.out]
        go_wp2_with fail
        refine (HX.out x _ hw1).mono ?_
        rintro e w' ⟨rfl, rfl⟩
        rw [Hx.out]
        go_wp2_with fail
        refine (HX.out y _ hw1).mono ?_
        rintro e w' ⟨rfl, rfl⟩
        rw [Hy.out]
        go_wp2_with fail
        go_ret2
        exact ⟨rfl, hw1⟩
      | true =>
        have he : beatsE noms bs x y = 0 := by unfold beatsE; rw [if_neg (by simp [h0]), if_neg (by simp [hx, hy])]
        have hm : beatsM noms bs x y = beatsF x y bs := by unfold beatsM; rw [if_pos he]
        rw [he, hm]
        have Hx := Lib.hid hx
        have Hy := Lib.hid hy
        have H0 := Lib.hid h0
        clear he hm hx hy hb0 h0
        go_enter Tryd.func20, Tryd.ntmps20
        go_wp2_with fail
        refine HC.out.mono ?_
        rintro e w1 ⟨rfl, hw1⟩
        rw [H0.out]
        go_wp2_with fail
        refine (HX.out x _ hw1).mono ?_
        rintro e w' ⟨rfl, rfl⟩
        rw [Hx.out]
        go_wp2_with fail
        refine (HX.out y _ hw1).mono ?_
        rintro e w' ⟨rfl, rfl⟩
        rw [Hy.out]
        go_wp2_with fail
        refine (HB.out _ hw1).mono ?_
        rintro e w2 ⟨rfl, hw2⟩
        go_wp2_with fail
        go_ret2
        exact ⟨rfl, hw1.trans hw2⟩
  · have hb0 : (ballotsF noms bs != 0) = true := by simp [h0]
    have he : beatsE noms bs x y = ballotsF noms bs := by unfold beatsE; rw [if_pos h0]
    have hm : beatsM noms bs x y = 0 := by unfold beatsM; rw [if_neg (by rw [he]; exact h0)]
    rw [he, hm]
    clear he hm h0
    go_enter Tryd.func20, Tryd.ntmps20
    go_wp2_with fail
    refine HC.out.mono ?_
    rintro e w1 ⟨rfl, hw1⟩
    go_wp2_with fail
    go_ret2
    exact ⟨rfl, hw1⟩

/-- x does not beat y. -/
def loses (bs : List Bal) (x y : ByteArray) : Bool := !(decide (x = y)) && decide (beatsF x y bs ≤ 0)
def winF (noms : List ByteArray) (bs : List Bal) : List ByteArray → Option ByteArray
  | [] => none
  | x :: l => if noms.any (loses bs x) = false then some x else winF noms bs l
theorem winF_cons (noms : List ByteArray) (bs : List Bal) (x : ByteArray) (l : List ByteArray) : winF noms bs (x :: l) = if noms.any (loses bs x) = false then some x else winF noms bs l := rfl
theorem hmf : ∀ (fn : Fn) (first cap : Array Value) (w : World), (Instr.makeFunc fn first cap).run Tryd.prog w = .ok (.func fn first cap) w := fun _ _ _ _ => rfl

set_option maxHeartbeats 800000 in
theorem winner1 (ap lp : Nat) (ab : Option Addr) (lb cb : Nat) (bs : List Bal) (x y : ByteArray) (w : World) (ca : w.cell? ⟨ap, 0, none⟩ = some (.string x)) (cl : w.cell? ⟨lp, 0, none⟩ = some (.slice ab lb cb))
    (hb : Sl RBal 2 (fun _ => True) w ab lb bs) (hs : SumOk bs) (hbr : ∀ x ∈ bs, x.ranks.length ≤ 1000000) :
    Calls Tryd.prog 71 #[.string y, .pointer (some ⟨ap, 0, none⟩), .pointer (some ⟨lp, 0, none⟩)] w fun e w' => e = .returned (.bool (loses bs x y)) ∧ All w w' := by
  have HB := Lib.hid (beats_any ab lb cb bs x y w hb hs hbr)
  clear hb hs hbr
  by_cases hxy : x = y
  · have hl : loses bs x y = false := by unfold loses; simp [hxy]
    rw [hl]
    have e1 : (x.toList == y.toList) = true := by simp [hxy]
    have e2 : (y.toList == x.toList) = true := by simp [hxy]
    clear hl hxy
    go_enter Tryd.func71, Tryd.ntmps71
    go_wp2_with fail
    go_ret
    exact ⟨rfl, Kept.refl _ _⟩
  · have e1 : (x.toList == y.toList) = false := by simp; exact fun e => hxy (bytes_ext e)
    have e2 : (y.toList == x.toList) = false := by simp; exact fun e => hxy (bytes_ext e).symm
    by_cases hle : beatsF x y bs ≤ 0
    · have hl : loses bs x y = true := by unfold loses; simp [hxy, hle]
      rw [hl]
      have e3 : decide (beatsF x y bs ≤ 0) = true := by simpa using hle
      clear hl hxy
      go_enter Tryd.func71, Tryd.ntmps71
      go_wp2_with fail
      refine HB.out.mono ?_
      rintro e w2 ⟨rfl, hw2⟩
      go_wp2_with fail
      go_ret
      exact ⟨rfl, hw2⟩
    · have hl : loses bs x y = false := by unfold loses; simp [hle]
      rw [hl]
      have e3 : decide (beatsF x y bs ≤ 0) = false := by simpa using hle
      clear hl hxy
      go_enter Tryd.func71, Tryd.ntmps71
      go_wp2_with fail
      refine HB.out.mono ?_
      rintro e w2 ⟨rfl, hw2⟩
      go_wp2_with fail
      go_ret
      exact ⟨rfl, hw2⟩

set_option maxHeartbeats 800000 in
theorem winnerOf1 (ap lp : Nat) (ab : Option Addr) (lb cb : Nat) (bs : List Bal) (x y : ByteArray) (w : World) (ca : w.cell? ⟨ap, 0, none⟩ = some (.string x)) (cl : w.cell? ⟨lp, 0, none⟩ = some (.slice ab lb cb))
    (hb : Sl RBal 2 (fun _ => True) w ab lb bs) (hs : SumOk bs) (hbr : ∀ x ∈ bs, x.ranks.length ≤ 1000000) :
    Calls Tryd.prog 73 #[.string y, .pointer (some ⟨ap, 0, none⟩), .pointer (some ⟨lp, 0, none⟩)] w fun e w' => e = .returned (.bool (loses bs x y)) ∧ All w w' := by
  have HB := Lib.hid (beatsOf_any ab lb cb bs x y w hb hs hbr)
  clear hb hs hbr
  by_cases hxy : x = y
  · have hl : loses bs x y = false := by unfold loses; simp [hxy]
    rw [hl]
    have e1 : (x.toList == y.toList) = true := by simp [hxy]
    have e2 : (y.toList == x.toList) = true := by simp [hxy]
    clear hl hxy
    go_enter Tryd.func73, Tryd.ntmps73
    go_wp2_with fail
    go_ret
    exact ⟨rfl, Kept.refl _ _⟩
  · have e1 : (x.toList == y.toList) = false := by simp; exact fun e => hxy (bytes_ext e)
    have e2 : (y.toList == x.toList) = false := by simp; exact fun e => hxy (bytes_ext e).symm
    by_cases hle : beatsF x y bs ≤ 0
    · have hl : loses bs x y = true := by unfold loses; simp [hxy, hle]
      rw [hl]
      have e3 : decide (beatsF x y bs ≤ 0) = true := by simpa using hle
      clear hl hxy
      go_enter Tryd.func73, Tryd.ntmps73
      go_wp2_with fail
      refine HB.out.mono ?_
      rintro e w2 ⟨rfl, hw2⟩
      go_wp2_with fail
      go_ret
      exact ⟨rfl, hw2⟩
    · have hl : loses bs x y = false := by unfold loses; simp [hle]
      rw [hl]
      have e3 : decide (beatsF x y bs ≤ 0) = false := by simpa using hle
      clear hl hxy
      go_enter Tryd.func73, Tryd.ntmps73
      go_wp2_with fail
      refine HB.out.mono ?_
      rintro e w2 ⟨rfl, hw2⟩
      go_wp2_with fail
      go_ret
      exact ⟨rfl, hw2⟩

set_option maxHeartbeats 1600000 in
theorem winner_any (an : Option Addr) (ln cn : Nat) (noms : List ByteArray) (ab : Option Addr) (lb cb : Nat) (bs : List Bal) (w : World) (h : Votes w an ln noms ab lb bs) (h0 : ballotsF noms bs = 0) :
    Calls Tryd.prog 21 #[.slice an ln cn, .slice ab lb cb] w fun e w' => e = .returned (.tuple #[.string ((winF noms bs noms).getD ByteArray.empty), .bool (winF noms bs noms).isSome, .int .i64 0]) ∧ All w w' := by
  have hv1 := h.keep (Kept.alloc (fun _ => True) w (.cells #[.slice ab lb cb] 28))
  have hl1 := heap_at w (.cells #[.slice ab lb cb] 28) _ rfl
  have hk1 : All w (w.alloc (.cells #[.slice ab lb cb] 28)) := Kept.alloc _ _ _
  have hlen := h.hn.len
  have hln := h.hln
  clear h
  have HC := Lib.hid (checkBallots_any an ln cn noms ab lb cb bs _ hv1.hn hv1.hb hv1.hln hv1.hlb hv1.hbr)
  have H0 := Lib.hid h0
  clear h0
  have hmf' := hmf
  have eg : ∀ args w, (callFunc 71 args).run Tryd.prog w = .ok (.enter 71 args) w := enters_of Tryd.func71 (by kernel_rfl) rfl
  go_enter Tryd.func21, Tryd.ntmps21
  go_wp2_with fail
  generalize w.alloc (.cells #[.slice ab lb cb] 28) = w1 at *
  refine HC.out.mono ?_
  rintro e w2 ⟨rfl, hw2⟩
  rw [H0.out]
  have hv2 := hv1.keep hw2
  have hl2 := hw2.heap hl1 trivial
  have hk2 := hk1.trans hw2
  clear hv1 hl1 hk1 HC hw2
  go_wp2_with fail
  go_loopw [18] (fun i wr => ∃ k : Nat, k ≤ ln ∧ i = .int .i64 k ∧ winF noms bs noms = winF noms bs (noms.drop k) ∧ All w2 wr) (fun i _ => ln - (intOf i).toNat)
  case atStart => exact ⟨0, Nat.zero_le _, rfl, by simp, Kept.refl _ _⟩
  case round =>
    obtain ⟨k, hk, rfl, hat, hall⟩ := hrel
    have Hat := Lib.hid hat
    clear hat
    by_cases hlt : k < ln
    · have hvr := hv2.keep hall
      have hlr := hall.heap hl2 trivial
      obtain ⟨b, off, x, ha, -, hck, -, hx, -, -⟩ := hvr.hn.atStr hlt
      subst ha
      have hva := hvr.keep (Kept.alloc (fun _ => True) wr (.cells #[.string x] 9))
      have ha1 := heap_at wr (.cells #[.string x] 9) _ rfl
      have hla := heap_old (.cells #[.string x] 9) hlr
      have hka := hk2.trans (hall.then_alloc (.cells #[.string x] 9))
      have hk3 := hall.then_alloc (.cells #[.string x] 9)
      have hans : Answers Tryd.prog 71 #[.pointer (some ⟨wr.heap.size, 0, none⟩), .pointer (some ⟨w.heap.size, 0, none⟩)] (wr.alloc (.cells #[.string x] 9)) (loses bs x) noms := fun y _ wx hwx =>
        winner1 _ _ ab lb cb bs x y wx (hwx.cell (cell_at ha1 rfl) trivial) (hwx.cell (cell_at hla rfl) trivial) ((hva.keep hwx).hb) hva.sum hva.hbr
      have HF := Lib.hid (containsFunc_any 71 _ eg (loses bs x) _ ln cn noms _ hva.hn hln hans)
      have ca := cell_at (i := 0) ha1 rfl
      clear hv2 hvr hlr hl2 hva hla hans eg
      cases hany : noms.any (loses bs x) with
      | false =>
        have hfin : winF noms bs noms = some x := by rw [Hat.out, drop_at hx, winF_cons, if_pos hany]
        have Hfin := Lib.hid hfin
        have Hany := Lib.hid hany
        clear hfin hany
        go_wp2_with fail
        refine HF.out.mono ?_
        rintro e w5 ⟨rfl, hw5⟩
        rw [Hany.out]
        have ca5 := hw5.cell ca trivial
        clear HF
        go_wp2_with fail
        go_ret3
        exact ⟨by rw [Hfin.out]; rfl, hka.trans hw5⟩
      | true =>
        have hnx : winF noms bs noms = winF noms bs (noms.drop (k + 1)) := by rw [Hat.out, drop_at hx, winF_cons, if_neg (by simp [hany])]
        have Hnx := Lib.hid hnx
        have Hany := Lib.hid hany
        clear hnx hany
        go_wp2_with fail
        refine HF.out.mono ?_
        rintro e w5 ⟨rfl, hw5⟩
        rw [Hany.out]
        clear HF
        go_wp2_with fail
        go_roundw
        case rel => exact ⟨k + 1, by omega, by go_num, Hnx.out, hk3.trans hw5⟩
        case measure => simp [intOf]; omega
    · have hd : decide ((k : Int) < (ln : Int)) = false := by simp; omega
      have hfin : winF noms bs noms = none := by rw [Hat.out, List.drop_of_length_le (by omega)]; rfl
      have Hfin := Lib.hid hfin
      clear hfin
      go_wp2_with fail
      go_ret3
      exact ⟨by rw [Hfin.out]; rfl, hk2.trans hall⟩

set_option maxHeartbeats 1600000 in
theorem winnerOf_any (an : Option Addr) (ln cn : Nat) (noms : List ByteArray) (ab : Option Addr) (lb cb : Nat) (bs : List Bal) (w : World) (h : Votes w an ln noms ab lb bs) :
    Calls Tryd.prog 26 #[.slice an ln cn, .slice ab lb cb] w fun e w' => e = .returned (.tuple #[.string ((winF noms bs noms).getD ByteArray.empty), .bool (winF noms bs noms).isSome]) ∧ All w w' := by
  have hv1 := h.keep (Kept.alloc (fun _ => True) w (.cells #[.slice ab lb cb] 28))
  have hl1 := heap_at w (.cells #[.slice ab lb cb] 28) _ rfl
  have hk1 : All w (w.alloc (.cells #[.slice ab lb cb] 28)) := Kept.alloc _ _ _
  have hlen := h.hn.len
  have hln := h.hln
  clear h
  have hmf' := hmf
  have eg : ∀ args w, (callFunc 73 args).run Tryd.prog w = .ok (.enter 73 args) w := enters_of Tryd.func73 (by kernel_rfl) rfl
  go_enter Tryd.func26, Tryd.ntmps26
  go_wp2_with fail
  generalize w.alloc (.cells #[.slice ab lb cb] 28) = w1 at *
  obtain ⟨w2, rfl⟩ : ∃ w2 : World, w2 = w1 := ⟨_, rfl⟩
  have hv2 := hv1
  have hl2 := hl1
  have hk2 := hk1
  clear hv1 hl1 hk1
  go_loopw [10] (fun i wr => ∃ k : Nat, k ≤ ln ∧ i = .int .i64 k ∧ winF noms bs noms = winF noms bs (noms.drop k) ∧ All w2 wr) (fun i _ => ln - (intOf i).toNat)
  case atStart => exact ⟨0, Nat.zero_le _, rfl, by simp, Kept.refl _ _⟩
  case round =>
    obtain ⟨k, hk, rfl, hat, hall⟩ := hrel
    have Hat := Lib.hid hat
    clear hat
    by_cases hlt : k < ln
    · have hvr := hv2.keep hall
      have hlr := hall.heap hl2 trivial
      obtain ⟨b, off, x, ha, -, hck, -, hx, -, -⟩ := hvr.hn.atStr hlt
      subst ha
      have hva := hvr.keep (Kept.alloc (fun _ => True) wr (.cells #[.string x] 9))
      have ha1 := heap_at wr (.cells #[.string x] 9) _ rfl
      have hla := heap_old (.cells #[.string x] 9) hlr
      have hka := hk2.trans (hall.then_alloc (.cells #[.string x] 9))
      have hk3 := hall.then_alloc (.cells #[.string x] 9)
      have hans : Answers Tryd.prog 73 #[.pointer (some ⟨wr.heap.size, 0, none⟩), .pointer (some ⟨w.heap.size, 0, none⟩)] (wr.alloc (.cells #[.string x] 9)) (loses bs x) noms := fun y _ wx hwx =>
        winnerOf1 _ _ ab lb cb bs x y wx (hwx.cell (cell_at ha1 rfl) trivial) (hwx.cell (cell_at hla rfl) trivial) ((hva.keep hwx).hb) hva.sum hva.hbr
      have HF := Lib.hid (containsFunc_any 73 _ eg (loses bs x) _ ln cn noms _ hva.hn hln hans)
      have ca := cell_at (i := 0) ha1 rfl
      clear hv2 hvr hlr hl2 hva hla hans eg
      cases hany : noms.any (loses bs x) with
      | false =>
        have hfin : winF noms bs noms = some x := by rw [Hat.out, drop_at hx, winF_cons, if_pos hany]
        have Hfin := Lib.hid hfin
        have Hany := Lib.hid hany
        clear hfin hany
        go_wp2_with fail
        refine HF.out.mono ?_
        rintro e w5 ⟨rfl, hw5⟩
        rw [Hany.out]
        have ca5 := hw5.cell ca trivial
        clear HF
        go_wp2_with fail
        go_ret2
        exact ⟨by rw [Hfin.out]; rfl, hka.trans hw5⟩
      | true =>
        have hnx : winF noms bs noms = winF noms bs (noms.drop (k + 1)) := by rw [Hat.out, drop_at hx, winF_cons, if_neg (by simp [hany])]
        have Hnx := Lib.hid hnx
        have Hany := Lib.hid hany
        clear hnx hany
        go_wp2_with fail
        refine HF.out.mono ?_
        rintro e w5 ⟨rfl, hw5⟩
        rw [Hany.out]
        clear HF
        go_wp2_with fail
        go_roundw
        case rel => exact ⟨k + 1, by omega, by go_num, Hnx.out, hk3.trans hw5⟩
        case measure => simp [intOf]; omega
    · have hd : decide ((k : Int) < (ln : Int)) = false := by simp; omega
      have hfin : winF noms bs noms = none := by rw [Hat.out, List.drop_of_length_le (by omega)]; rfl
      have Hfin := Lib.hid hfin
      clear hfin
      go_wp2_with fail
      go_ret2
      exact ⟨by rw [Hfin.out]; rfl, hk2.trans hall⟩

theorem winner_bad (an : Option Addr) (ln cn : Nat) (noms : List ByteArray) (ab : Option Addr) (lb cb : Nat) (bs : List Bal) (w : World) (h : Votes w an ln noms ab lb bs) (h0 : ballotsF noms bs ≠ 0) :
    Calls Tryd.prog 21 #[.slice an ln cn, .slice ab lb cb] w fun e w' => e = .returned (.tuple #[.string ByteArray.empty, .bool false, .int .i64 (ballotsF noms bs)]) ∧ All w w' := by
  have hv1 := h.keep (Kept.alloc (fun _ => True) w (.cells #[.slice ab lb cb] 28))
  have hl1 := heap_at w (.cells #[.slice ab lb cb] 28) _ rfl
  have hk1 : All w (w.alloc (.cells #[.slice ab lb cb] 28)) := Kept.alloc _ _ _
  have HC := Lib.hid (checkBallots_any an ln cn noms ab lb cb bs _ hv1.hn hv1.hb hv1.hln hv1.hlb hv1.hbr)
  have hb0 : (ballotsF noms bs != 0) = true := by simp [h0]
  clear h hv1 hl1 h0
  go_enter Tryd.func21, Tryd.ntmps21
  go_wp2_with fail
  generalize w.alloc (.cells #[.slice ab lb cb] 28) = w1 at *
  refine HC.out.mono ?_
  rintro e w2 ⟨rfl, hw2⟩
  go_wp2_with fail
  go_ret3
  exact ⟨rfl, hk1.trans hw2⟩
end Go.Proofs.YteanedcfiellkaaDoor
