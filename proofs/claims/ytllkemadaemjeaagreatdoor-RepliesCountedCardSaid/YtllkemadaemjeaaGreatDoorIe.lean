/- ReplyRulesFault, Replied, CountedOf. -/
import Derived.Test.YtllkemadaemjeaaGreatDoorId
import Derived.Test.YtllkemadaemjeaaGreatDoorIb
import Derived.Test.YtllkemadaemjeaaGreatDoorSj
namespace Go.Proofs.YtllkemadaemjeaaGreatDoor
open Go.RowKit Go.Sort

set_option maxHeartbeats 800000 in
theorem replyRulesFault_any (r : RR) (w : World) :
    Calls Tryz.prog 36 #[r.val] w fun e w' => e = .returned (.int .i64 (rrF r)) ∧ All w w' := by
  have HRR := Lib.hid (show rrF r = if r.fr < 0 ∨ r.til < r.fr then 1 else if 5761440 < r.til then 1 else if r.most < 0 ∨ 6000 < r.most then 1 else 0 from rfl)
  obtain ⟨er, her⟩ : ∃ e, e = rrF r := ⟨_, rfl⟩
  rw [← her] at HRR ⊢
  obtain ⟨fr, til, most⟩ := r
  dsimp only at HRR
  clear her
  have hk : All w (w.alloc (.cells #[.int .i64 fr, .int .i64 til, .int .i64 most] 66)) := Kept.alloc _ _ _
  by_cases h1 : fr < 0 ∨ til < fr
  · have HF := Lib.hid (show er = 1 by rw [HRR.out, if_pos h1])
    have HD := Lib.hid (show decide (0 ≤ fr ∧ fr ≤ til) = false by simp; omega)
    clear h1
    go_enter Tryz.func36, Tryz.ntmps36
    go_wp2_with fail
    refine (in_any _ _ _ _).mono ?_
    rintro e w' ⟨rfl, hh⟩
    subst hh
    rw [HD.out]
    go_wp2_with fail
    go_ret
    exact ⟨ret_int' HF.out.symm, hk⟩
  · have HD := Lib.hid (show decide (0 ≤ fr ∧ fr ≤ til) = true by simp; omega)
    by_cases h2 : 5761440 < til
    · have HF := Lib.hid (show er = 1 by rw [HRR.out, if_neg h1, if_pos h2])
      have d2 := decide_eq_true h2
      clear h1 h2
      go_enter Tryz.func36, Tryz.ntmps36
      go_wp2_with fail
      refine (in_any _ _ _ _).mono ?_
      rintro e w' ⟨rfl, hh⟩
      subst hh
      rw [HD.out]
      go_wp2_with fail
      go_ret
      exact ⟨ret_int' HF.out.symm, hk⟩
    · have d2 := decide_eq_false h2
      by_cases h3 : most < 0 ∨ 6000 < most
      · have HF := Lib.hid (show er = 1 by rw [HRR.out, if_neg h1, if_neg h2, if_pos h3])
        have HD3 := Lib.hid (show decide (0 ≤ most ∧ most ≤ 6000) = false by simp; omega)
        clear h1 h2 h3
        go_enter Tryz.func36, Tryz.ntmps36
        go_wp2_with fail
        refine (in_any _ _ _ _).mono ?_
        rintro e w' ⟨rfl, hh⟩
        subst hh
        rw [HD.out]
        go_wp2_with fail
        refine (in_any _ _ _ _).mono ?_
        rintro e w' ⟨rfl, hh⟩
        subst hh
        rw [HD3.out]
        go_wp2_with fail
        go_ret
        exact ⟨ret_int' HF.out.symm, hk⟩
      · have HF := Lib.hid (show er = 0 by rw [HRR.out, if_neg h1, if_neg h2, if_neg h3])
        have HD3 := Lib.hid (show decide (0 ≤ most ∧ most ≤ 6000) = true by simp; omega)
        clear h1 h2 h3
        go_enter Tryz.func36, Tryz.ntmps36
        go_wp2_with fail
        refine (in_any _ _ _ _).mono ?_
        rintro e w' ⟨rfl, hh⟩
        subst hh
        rw [HD.out]
        go_wp2_with fail
        refine (in_any _ _ _ _).mono ?_
        rintro e w' ⟨rfl, hh⟩
        subst hh
        rw [HD3.out]
        go_wp2_with fail
        go_ret
        exact ⟨ret_int' HF.out.symm, hk⟩

/-- What Replied leaves. -/
def RepliedPost (r : RR) (xs : List Rep3) (w : World) (e : Ending) (w' : World) : Prop :=
  (cntE r xs ≠ 0 → e = .returned (.tuple #[.slice none 0 0, .int .i64 (cntE r xs)])) ∧
  (cntE r xs = 0 → ∃ p c out, e = .returned (.tuple #[.slice p out.length c, .int .i64 0]) ∧ IsCounted (xs.filter (timelyB r)) out ∧ out.length ≤ xs.length ∧ Acc RStr 1 9 (fun _ => False) w.heap.size w' (.slice p out.length c) (out.map Rep3.paper)) ∧ All w w'

set_option maxRecDepth 100000 in
set_option maxHeartbeats 6400000 in
theorem replied_any (r : RR) (a : Option Addr) (len cap : Nat) (xs : List Rep3) (w : World) (hs : Sl RReply 3 (fun _ => True) w a len xs) (hl : len ≤ 1000000) (hg : Tabs w) :
    Calls Tryz.prog 33 #[r.val, .slice a len cap] w (RepliedPost r xs w) := by
  have Hlen := Lib.hid hs.len
  obtain ⟨ts, hts⟩ : ∃ ts : List Rep3, ts = xs.filter (timelyB r) := ⟨_, rfl⟩
  have HTS := Lib.hid hts
  obtain ⟨er, her⟩ : ∃ e, e = cntE r xs := ⟨_, rfl⟩
  have HER := Lib.hid her
  have HP0 : ∀ e w', (er ≠ 0 → e = .returned (.tuple #[.slice none 0 0, .int .i64 er])) → (er = 0 → ∃ p c out, e = .returned (.tuple #[.slice p out.length c, .int .i64 0]) ∧ IsCounted ts out ∧ out.length ≤ xs.length ∧ Acc RStr 1 9 (fun _ => False) w.heap.size w' (.slice p out.length c) (out.map Rep3.paper)) → All w w' → RepliedPost r xs w e w' := by
    intro e w' h1 h2 h3
    rw [her, hts] at *
    exact ⟨h1, h2, h3⟩
  have HPOST := Lib.hid HP0
  have HC0 : ∀ wx, All w wx → Calls Tryz.prog 32 #[r.val, .slice a len cap] wx fun e w' => (er ≠ 0 → e = .returned (.tuple #[.slice none 0 0, .int .i64 er])) ∧ (er = 0 → ∃ p c out, e = .returned (.tuple #[.slice p out.length c, .int .i64 0]) ∧ IsCounted ts out ∧ out.length ≤ xs.length ∧ Acc RReply 3 79 (fun _ => False) wx.heap.size w' (.slice p out.length c) out) ∧ All wx w' := by
    intro wx hk
    rw [her, hts]
    exact counted_any r a len cap xs wx (hs.keep RReply.ok hk) hl (hg.keep hk)
  have HC := Lib.hid HC0
  clear HP0 HC0 her hts hs hg
  generalize hPo : RepliedPost r xs w = Post at *
  obtain ⟨fr, til, most⟩ := r
  have hkr : All w (w.alloc (.cells #[.int .i64 fr, .int .i64 til, .int .i64 most] 66)) := Kept.alloc _ _ _
  by_cases hf : er = 0
  · subst hf
    go_enter Tryz.func33, Tryz.ntmps33
    go_wp2_with fail
    refine (HC.out _ hkr).mono ?_
    rintro e w2 ⟨-, hok, hw2⟩
    obtain ⟨p, c, out, rfl, hcnt, hol, hacc⟩ := hok trivial
    obtain ⟨p', c', hv, hso⟩ := hacc.sl RReply.ok (by decide) (G := fun _ => True) (fun _ h => h.elim) (fun _ _ => trivial)
    cases hv
    have hk2 := hkr.trans hw2
    have HCN := Lib.hid hcnt
    obtain ⟨lo, hlo⟩ : ∃ l, l = out.length := ⟨_, rfl⟩
    have HLO := Lib.hid hlo
    have hsz := hk2.size
    rw [← hlo] at hso hol ⊢
    have hlob : lo ≤ 1000000 := by have := Hlen.out; omega
    clear hok hcnt hacc hlo hw2 hkr
    go_wp2_with fail
    go_loopw [8, 22] (fun v i wr => ∃ j : Nat, j ≤ lo ∧ i = .int .i64 j ∧ Acc RStr 1 9 (fun _ => False) w2.heap.size wr v ((out.take j).map Rep3.paper) ∧ All w2 wr) (fun _ i _ => lo - (intOf i).toNat)
    case atStart => exact ⟨0, Nat.zero_le _, rfl, Acc.nil _ _ _ _ _ _, Kept.refl _ _⟩
    case round =>
      obtain ⟨j, hj, rfl, hacc, hwr⟩ := hrel
      obtain ⟨wi, rfl⟩ : ∃ wi : World, wi = wr := ⟨_, rfl⟩
      obtain ⟨av, cv, rfl, hcv⟩ := hacc.form
      obtain ⟨os, hos⟩ : ∃ os, os = (out.take j).map Rep3.paper := ⟨_, rfl⟩
      have HOS := Lib.hid hos
      have holj : os.length = j := by rw [hos, List.length_map, List.length_take]; have := HLO.out; omega
      rw [← hos] at hacc hcv ⊢
      have HLJ := Lib.hid holj
      rw [holj] at hacc hcv ⊢
      clear hos holj
      by_cases hjl : j < lo
      · obtain ⟨bk, ok, x, hap, -, c0, c1, c2, ⟨hz1, hz2⟩, -, -, hpt⟩ := (hso.keep RReply.ok hwr).atReply hjl
        subst hap
        have HNX := Lib.hid (show (out.take (j + 1)).map Rep3.paper = os ++ [x.paper] by rw [hpt, List.map_append, HOS.out]; rfl)
        have hblk := heap_at wi (.cells #[.string x.paper, .int .i64 x.tm, .string x.words] 79) _ rfl
        have e0 := cell_at (i := 0) hblk rfl
        have hka : All wi ((wi.alloc (.cells #[.string x.paper, .int .i64 x.tm, .string x.words] 79)).alloc (.cells #[.string x.paper] 9)) := (Kept.alloc _ _ _).then_alloc _
        have hsz6 := hwr.size
        clear hpt hblk
        go_wp2_with (at_builtin; refine wp_append1 RStr.ok _ rfl _ _ 26 rfl w2.heap.size 9 (.string ⟨#[]⟩) 1 16 Tryz.underlying26 (by kernel_rfl) rfl (by decide) (fun _ => False) _ os rfl (hacc.keepAll RStr.ok hka) ⟨_, 0, none⟩ 1 [.string x.paper] rfl rfl (World.news_of_block (cs := #[.string x.paper]) (heap_at _ _ _ (by simp))) (by simp [Value.oneCell']) x.paper ⟨rfl, hz1⟩ (by have := HLJ.out; have := Hlen.out; omega) (by decide) (by simp; omega) ?_)
        intro p' c' w9 hacc9 hg9 _
        have hk9 : All w2 w9 := (hwr.trans hka).grown hg9 (fun k hk => Or.inl (hacc.lt k hk).1)
        clear hg9 hacc e0
        go_wp2_with fail
        go_roundw
        case rel => exact ⟨j + 1, by omega, by go_num, by rw [HNX.out]; exact hacc9, hk9⟩
        case measure => simp [intOf]; omega
      · have hdj : decide ((j : Int) < (lo : Int)) = false := by simp; omega
        have hje : out.take j = out := List.take_of_length_le (by have := HLO.out; omega)
        have HOK := Lib.hid (show os = out.map Rep3.paper by rw [HOS.out, hje])
        have hjo : j = lo := by omega
        subst hjo
        clear hje
        go_wp2_with fail
        exact HPOST.out _ _ (fun h => absurd rfl h) (fun _ => ⟨_, cv, out, by rw [← HLO.out]; rfl, HCN.out, by rw [← HLO.out]; exact hol, by rw [← HLO.out, ← HOK.out]; exact hacc.base0 hsz⟩) (hk2.trans hwr)
  · have hne : (er != 0) = true := by simpa using hf
    have HF0 := Lib.hid hf
    clear hf
    go_enter Tryz.func33, Tryz.ntmps33
    go_wp2_with fail
    refine (HC.out _ hkr).mono ?_
    rintro e w2 ⟨hbad, -, hw2⟩
    have he := hbad HF0.out
    subst he
    go_wp2_with fail
    exact HPOST.out _ _ (fun _ => rfl) (fun h => absurd h HF0.out) (hkr.trans hw2)

theorem countedOf1_any (r : RR) (h1 : 0 ≤ r.til) (h2 : r.til ≤ 5761440) (rb : Nat) (x : Rep3) (w : World) (hr : w.cell? ⟨rb, 0, none⟩ = some (.int .i64 r.fr) ∧ w.cell? ⟨rb, 1, none⟩ = some (.int .i64 r.til) ∧ w.cell? ⟨rb, 2, none⟩ = some (.int .i64 r.most)) :
    Calls Tryz.prog 84 #[repVal x, .pointer (some ⟨rb, 0, none⟩)] w fun e w' => e = .returned (.bool (!timelyB r x)) ∧ All w w' := by
  have HT := Lib.hid (show timelyB r x = (decide (r.fr ≤ x.tm) && decide (x.tm < r.til) && decide ((x.words.size : Int) ≤ r.most)) from rfl)
  obtain ⟨tb, htb⟩ : ∃ t, t = timelyB r x := ⟨_, rfl⟩
  rw [← htb] at HT ⊢
  obtain ⟨fr, til, most⟩ := r
  dsimp only at HT h1 h2 hr
  clear htb
  have hk : All w (w.alloc (.cells #[.string x.paper, .int .i64 x.tm, .string x.words] 79)) := Kept.alloc _ _ _
  have hblk := heap_at w (.cells #[.string x.paper, .int .i64 x.tm, .string x.words] 79) _ rfl
  have e1 := cell_at (i := 1) hblk rfl
  have e2 := cell_at (i := 2) hblk rfl
  have r0 := hk.cell hr.1 trivial
  have r1 := hk.cell hr.2.1 trivial
  have r2 := hk.cell hr.2.2 trivial
  clear hr hblk
  by_cases hin : fr ≤ x.tm ∧ x.tm ≤ til - 1
  · have HD := Lib.hid (decide_eq_true hin)
    have HF := Lib.hid (show (!tb) = decide (most < (x.words.size : Int)) by
      rw [HT.out, show decide (fr ≤ x.tm) = true by simp; omega, show decide (x.tm < til) = true by simp; omega]
      rw [Bool.eq_iff_iff]; simp)
    clear hin
    go_enter Tryz.func84, Tryz.ntmps84
    go_wp2_with fail
    refine (in_any _ _ _ _).mono ?_
    rintro e w' ⟨rfl, hh⟩
    subst hh
    rw [HD.out]
    go_wp2_with fail
    go_ret
    exact ⟨by rw [HF.out]; rfl, hk⟩
  · have HD := Lib.hid (decide_eq_false hin)
    have HF := Lib.hid (show (!tb) = true by
      rw [HT.out]
      rw [Bool.eq_iff_iff]; simp; omega)
    clear hin
    go_enter Tryz.func84, Tryz.ntmps84
    go_wp2_with fail
    refine (in_any _ _ _ _).mono ?_
    rintro e w' ⟨rfl, hh⟩
    subst hh
    rw [HD.out]
    go_wp2_with fail
    go_ret
    exact ⟨by rw [HF.out]; rfl, hk⟩

/-- y is of x's paper, and better. -/
def overB (x y : Rep3) : Bool := decide (y.paper = x.paper) && betterB y x
set_option maxHeartbeats 1600000 in
theorem countedOf3_any (xb : Nat) (x y : Rep3) (w : World) (hx : w.cell? ⟨xb, 0, none⟩ = some (.string x.paper) ∧ w.cell? ⟨xb, 1, none⟩ = some (.int .i64 x.tm) ∧ w.cell? ⟨xb, 2, none⟩ = some (.string x.words)) :
    Calls Tryz.prog 87 #[repVal y, .pointer (some ⟨xb, 0, none⟩)] w fun e w' => e = .returned (.bool (overB x y)) ∧ All w w' := by
  have hk : All w (w.alloc (.cells #[.string y.paper, .int .i64 y.tm, .string y.words] 79)) := Kept.alloc _ _ _
  have hblk := heap_at w (.cells #[.string y.paper, .int .i64 y.tm, .string y.words] 79) _ rfl
  have e0 := cell_at (i := 0) hblk rfl
  have e1 := cell_at (i := 1) hblk rfl
  have e2 := cell_at (i := 2) hblk rfl
  have x0 := hk.cell hx.1 trivial
  have x1 := hk.cell hx.2.1 trivial
  have x2 := hk.cell hx.2.2 trivial
  obtain ⟨ob, hob⟩ : ∃ o, o = overB x y := ⟨_, rfl⟩
  have HO := Lib.hid hob
  rw [← hob]
  clear hx hblk hob
  by_cases hp : y.paper = x.paper
  · have q0 : (y.paper.toList == x.paper.toList) = true := by simp [hp]
    by_cases b1 : x.tm < y.tm
    · have HF := Lib.hid (show ob = true by rw [HO.out]; simp [overB, betterB, hp, b1])
      have q1 := decide_eq_true b1
      clear hp b1
      go_enter Tryz.func87, Tryz.ntmps87
      go_wp2_with fail
      go_ret
      exact ⟨by rw [HF.out]; rfl, hk⟩
    · have q1 := decide_eq_false b1
      by_cases b2 : y.tm = x.tm
      · have q2 : (y.tm == x.tm) = true := by simpa using b2
        cases b3 : Op.bytesLess y.words.toList x.words.toList with
        | true =>
          have HF := Lib.hid (show ob = false by rw [HO.out]; simp [overB, betterB, ltB, b1, less_asym b3])
          clear hp b1 b2
          go_enter Tryz.func87, Tryz.ntmps87
          go_wp2_with fail
          go_ret
          exact ⟨by rw [HF.out]; rfl, hk⟩
        | false =>
          by_cases b4 : y.words = x.words
          · have q4 : (y.words.toList == x.words.toList) = true := by simp [b4]
            have HF := Lib.hid (show ob = false by rw [HO.out]; simp [overB, betterB, ltB, b1, b4, bl_irrefl])
            clear hp b1 b2 b4
            go_enter Tryz.func87, Tryz.ntmps87
            go_wp2_with fail
            go_ret
            exact ⟨by rw [HF.out]; rfl, hk⟩
          · have q4 := bytes_ne2 b4
            have HF := Lib.hid (show ob = true by rw [HO.out]; simp [overB, betterB, ltB, hp, b2, bl_total b3 (fun e => b4 (bytes_ext e))])
            clear hp b1 b2 b4
            go_enter Tryz.func87, Tryz.ntmps87
            go_wp2_with fail
            go_ret
            exact ⟨by rw [HF.out]; rfl, hk⟩
      · have q2 : (y.tm == x.tm) = false := by simpa using b2
        have HF := Lib.hid (show ob = false by rw [HO.out]; simp [overB, betterB, b1, b2])
        clear hp b1 b2
        go_enter Tryz.func87, Tryz.ntmps87
        go_wp2_with fail
        go_ret
        exact ⟨by rw [HF.out]; rfl, hk⟩
  · have q0 := bytes_ne2 hp
    have HF := Lib.hid (show ob = false by rw [HO.out]; simp [overB, hp])
    clear hp
    go_enter Tryz.func87, Tryz.ntmps87
    go_wp2_with fail
    go_ret
    exact ⟨by rw [HF.out]; rfl, hk⟩

set_option maxHeartbeats 1600000 in
theorem countedOf2_any (tb : Nat) (a : Option Addr) (len cap : Nat) (ts : List Rep3) (x : Rep3) (w : World) (ht : w.cell? ⟨tb, 0, none⟩ = some (.slice a len cap)) (hs : Sl RReply 3 (fun _ => True) w a len ts) (hl : len ≤ 1000000) :
    Calls Tryz.prog 85 #[repVal x, .pointer (some ⟨tb, 0, none⟩)] w fun e w' => e = .returned (.bool (ts.any (overB x))) ∧ All w w' := by
  have hk : All w (w.alloc (.cells #[.string x.paper, .int .i64 x.tm, .string x.words] 79)) := Kept.alloc _ _ _
  have hblk := heap_at w (.cells #[.string x.paper, .int .i64 x.tm, .string x.words] 79) _ rfl
  have t0 := hk.cell ht trivial
  have ef : ∀ args w, (callFunc 87 args).run Tryz.prog w = .ok (.enter 87 args) w := enters_of Tryz.func87 (by kernel_rfl) rfl
  have HC := Lib.hid (containsFuncReply_any 87 #[.pointer (some ⟨w.heap.size, 0, none⟩)] ef (overB x) (fun _ => True) a len cap ts _ (hs.keep RReply.ok hk) hl (fun y _ wx k => countedOf3_any w.heap.size x y wx ⟨k.cell (cell_at (i := 0) hblk rfl) trivial, k.cell (cell_at (i := 1) hblk rfl) trivial, k.cell (cell_at (i := 2) hblk rfl) trivial⟩))
  clear ht hs hblk
  go_enter Tryz.func85, Tryz.ntmps85
  go_wp2_with fail
  refine HC.out.mono ?_
  rintro e w' ⟨rfl, hw⟩
  go_wp2_with fail
  go_ret
  exact ⟨rfl, hk.trans hw⟩

/-- Replies by their papers. -/
def cfR (x y : Rep3) : Int := Lib.compareBytes x.paper.data.toList y.paper.data.toList
theorem isCmpR : IsCmp cfR where
  zero x y h := by unfold cfR at *; exact (cmp_zero _ _).2 ((cmp_zero _ _).1 h).symm
  refl x := (cmp_zero _ _).2 rfl
  neg x y h := by unfold cfR at *; have := cmp_swap x.paper.data.toList y.paper.data.toList; omega
  lt x y z h1 h2 := by
    unfold cfR at *
    rcases Int.lt_or_le (Lib.compareBytes y.paper.data.toList z.paper.data.toList) 0 with h | h
    · exact cmp_trans h1 h
    · rw [← (cmp_zero _ _).1 (by omega : Lib.compareBytes y.paper.data.toList z.paper.data.toList = 0)]; exact h1
  lt2 x y z h1 h2 := by
    unfold cfR at *
    rcases Int.lt_or_le (Lib.compareBytes x.paper.data.toList y.paper.data.toList) 0 with h | h
    · exact cmp_trans h h2
    · rw [(cmp_zero _ _).1 (by omega : Lib.compareBytes x.paper.data.toList y.paper.data.toList = 0)]; exact h2
  eq x y z h1 h2 := by
    unfold cfR at *
    rw [(cmp_zero _ _).1 h1]; exact h2
theorem countedOf4_any (x y : Rep3) (w : World) :
    Calls Tryz.prog 89 #[repVal x, repVal y] w fun e w' => e = .returned (.int .i64 (cfR x y)) ∧ ∃ q os, w' = grow (w.drewN q) os := by
  have hblk := heap_at w (.cells #[.string x.paper, .int .i64 x.tm, .string x.words] 79) _ rfl
  have e0 := cell_at (i := 0) (heap_old (.cells #[.string y.paper, .int .i64 y.tm, .string y.words] 79) hblk) rfl
  have hblk2 := heap_at (w.alloc (.cells #[.string x.paper, .int .i64 x.tm, .string x.words] 79)) (.cells #[.string y.paper, .int .i64 y.tm, .string y.words] 79) (w.heap.size + 1) (by simp)
  have f0 := cell_at (i := 0) hblk2 rfl
  clear hblk hblk2
  go_enter Tryz.func89, Tryz.ntmps89
  go_wp2_with fail
  refine (Tryz.strings_Compare _ _ _).mono ?_
  rintro e w' ⟨rfl, rfl⟩
  go_wp2_with fail
  go_ret
  exact ⟨rfl, 0, _, by rw [alloc_eq_grow, alloc_eq_grow, grow_grow]; rfl⟩

/-- What CountedOf leaves. -/
def CountedOfPost (r : RR) (xs : List Rep3) (w : World) (e : Ending) (w' : World) : Prop :=
  ∃ p c out, e = .returned (.slice p out.length c) ∧ IsCounted (xs.filter (timelyB r)) out ∧ out.length ≤ xs.length ∧ Acc RReply 3 79 (fun _ => False) w.heap.size w' (.slice p out.length c) out ∧ All w w'
theorem IsTidy.counted {ts out : List Rep3} (h : IsTidy cfR (ts.filter (topB ts)) out) : IsCounted ts out := by
  refine ⟨h.rise.imp fun {x y} hxy => ?_, fun x => ?_⟩
  · unfold cfR at hxy
    rw [cmp_neg, ← tl_data, ← tl_data] at hxy
    exact hxy
  · constructor
    · intro hx
      have h1 := List.mem_filter.1 (h.sub x hx)
      exact (topB_iff h1.1).1 h1.2
    · intro hx
      have hm := (bestR_some hx).1
      obtain ⟨y, hy, h0⟩ := h.all x (List.mem_filter.2 ⟨hm, (topB_iff hm).2 hx⟩)
      have h1 := List.mem_filter.1 (h.sub y hy)
      have h2 := (topB_iff h1.1).1 h1.2
      have hp : x.paper = y.paper := Go.WideShapes.bytes_inj ((cmp_zero _ _).1 h0)
      rw [← hp, hx] at h2
      injection h2 with h2
      rw [h2]; exact hy

set_option maxRecDepth 100000 in
set_option maxHeartbeats 6400000 in
theorem countedOf_any (r : RR) (hr1 : 0 ≤ r.til) (hr2 : r.til ≤ 5761440) (a : Option Addr) (len cap : Nat) (xs : List Rep3) (w : World) (hs : Sl RReply 3 (fun _ => True) w a len xs) (hl : len ≤ 1000000) :
    Calls Tryz.prog 37 #[r.val, .slice a len cap] w (CountedOfPost r xs w) := by
  have Hlen := Lib.hid hs.len
  have e1 : ∀ args w, (callFunc 84 args).run Tryz.prog w = .ok (.enter 84 args) w := enters_of Tryz.func84 (by kernel_rfl) rfl
  have e2 : ∀ args w, (callFunc 85 args).run Tryz.prog w = .ok (.enter 85 args) w := enters_of Tryz.func85 (by kernel_rfl) rfl
  have e3 : ∀ args w, (callFunc 89 args).run Tryz.prog w = .ok (.enter 89 args) w := enters_of Tryz.func89 (by kernel_rfl) rfl
  have H1 := Lib.hid (fun rb x wx h => countedOf1_any r hr1 hr2 rb x wx h)
  have HE := Lib.hid (show keptA (fun x => !timelyB r x) xs = xs.filter (timelyB r) by simp [keptA])
  obtain ⟨ts, hts⟩ : ∃ ts : List Rep3, ts = xs.filter (timelyB r) := ⟨_, rfl⟩
  have htl : ts.length ≤ len := by rw [hts]; have h1 := List.length_filter_le (timelyB r) xs; have := Hlen.out; omega
  have HTS := Lib.hid hts
  rw [← hts] at HE
  have HP0 : ∀ e w', (∃ p c out, e = .returned (.slice p out.length c) ∧ IsTidy cfR (ts.filter (topB ts)) out ∧ out.length ≤ len ∧ Acc RReply 3 79 (fun _ => False) w.heap.size w' (.slice p out.length c) out ∧ All w w') → CountedOfPost r xs w e w' := by
    rintro e w' ⟨p, c, out, h1, h2, h3, h4, h5⟩
    exact ⟨p, c, out, h1, by rw [← hts]; exact h2.counted, by have := Hlen.out; omega, h4, h5⟩
  have HPOST := Lib.hid HP0
  have HTOP := Lib.hid (show keptA (fun x => ts.any (overB x)) ts = ts.filter (topB ts) from rfl)
  clear HP0 hts
  generalize hPo : CountedOfPost r xs w = Post at *
  obtain ⟨fr, til, most⟩ := r
  dsimp only at H1 hr1 hr2
  have hkr : All w (w.alloc (.cells #[.int .i64 fr, .int .i64 til, .int .i64 most] 66)) := Kept.alloc _ _ _
  have hblk := heap_at w (.cells #[.int .i64 fr, .int .i64 til, .int .i64 most] 66) _ rfl
  have hs1 := hs.keep RReply.ok hkr
  have hrl : w.heap.size < (w.alloc (.cells #[.int .i64 fr, .int .i64 til, .int .i64 most] 66)).heap.size := by simp
  obtain ⟨rb, hrb⟩ : ∃ rb, rb = w.heap.size := ⟨_, rfl⟩
  have HRB := Lib.hid hrb
  have HRC := Lib.hid (fun (G : Nat → Prop) (hG : G rb) (wx : World) (k : Kept G (w.alloc (.cells #[.int .i64 fr, .int .i64 til, .int .i64 most] 66)) wx) => (by
    rw [← hrb] at hblk
    exact ⟨k.cell (cell_at (i := 0) hblk rfl) hG, k.cell (cell_at (i := 1) hblk rfl) hG, k.cell (cell_at (i := 2) hblk rfl) hG⟩ : wx.cell? ⟨rb, 0, none⟩ = some (.int .i64 fr) ∧ wx.cell? ⟨rb, 1, none⟩ = some (.int .i64 til) ∧ wx.cell? ⟨rb, 2, none⟩ = some (.int .i64 most)))
  rw [← hrb] at hrl
  have hw0 : w.heap.size ≤ rb := by omega
  clear hs hblk hrb
  go_enter Tryz.func37, Tryz.ntmps37
  go_wp2_with fail
  simp only [← HRB.out]
  generalize w.alloc (.cells #[.int .i64 fr, .int .i64 til, .int .i64 most] 66) = w1 at *
  refine (cloneReply_any a len cap xs w1 hs1 hl).mono ?_
  rintro e w2 ⟨p, c, rfl, hacc, hw2⟩
  have hlt2 : ∀ k, (Value.slice p xs.length c).ownBlock = some k → rb < k := fun k hk => by have := (hacc.lt k hk).1; omega
  have HD := Lib.hid (deleteFuncReply_any 84 #[.pointer (some ⟨rb, 0, none⟩)] e1 (fun x => !timelyB ⟨fr, til, most⟩ x) _ xs _ hacc (by have := Hlen.out; omega) (fun y _ wx hk => H1.out rb y wx (HRC.out _ (fun e => by have := hlt2 _ e; omega) wx ((Kept.all hw2).trans hk))))
  have HA2 := Lib.hid (fun k hk => (hacc.lt k hk).1)
  rw [HE.out] at HD
  have Hxl := Hlen.out
  rw [Hxl] at HD HA2 ⊢
  clear hacc hlt2 hs1
  go_wp2_with fail
  refine HD.out.mono ?_
  rintro e w3 ⟨p3, c3, rfl, hacc3, hk3, -⟩
  have hall3 : All w1 w3 := hw2.trans2 hk3 (fun i hi _ e => by have := HA2.out i e; omega)
  obtain ⟨lt, hlt⟩ : ∃ l, l = ts.length := ⟨_, rfl⟩
  have HLT := Lib.hid hlt
  rw [← hlt] at hacc3 htl ⊢
  obtain ⟨p3', c3', hv3, hs3⟩ := hacc3.sl RReply.ok (by decide) (G := fun k => k < w3.heap.size) (fun _ h => h.elim) (fun k hk => (hacc3.lt k hk).2)
  rw [← hlt] at hv3 hs3
  cases hv3
  have hk4 : All w3 (w3.alloc (.cells #[.slice p3 lt c3] 68)) := Kept.alloc _ _ _
  have hblk := heap_at w3 (.cells #[.slice p3 lt c3] 68) _ rfl
  have t0 := cell_at (i := 0) hblk rfl
  have htb : w3.heap.size < (w3.alloc (.cells #[.slice p3 lt c3] 68)).heap.size := by simp
  have hs4 := hs3.keep RReply.ok (Kept.all hk4)
  obtain ⟨tb, htbe⟩ : ∃ tb, tb = w3.heap.size := ⟨_, rfl⟩
  have HTB := Lib.hid htbe
  rw [← htbe] at t0 htb hs4
  have hsz3 := hall3.size
  clear hacc3 hs3 hk3 hlt hblk htbe hw2
  go_wp2_with fail
  simp only [← HTB.out]
  have hall4 := hall3.trans hk4
  generalize w3.alloc (.cells #[.slice p3 lt c3] 68) = w4 at *
  refine (cloneReply_any p3 lt c3 ts w4 (hs4.mono RReply.ok (fun _ _ => trivial)) (by omega)).mono ?_
  rintro e w5 ⟨p5, c5, rfl, hacc5, hw5⟩
  have hlt5 : ∀ k, (Value.slice p5 ts.length c5).ownBlock = some k → tb < k := fun k hk => by have := (hacc5.lt k hk).1; omega
  have HA5 := Lib.hid (fun k hk => (hacc5.lt k hk).1)
  have HD5 := Lib.hid (deleteFuncReply_any 85 #[.pointer (some ⟨tb, 0, none⟩)] e2 (fun x => ts.any (overB x)) _ ts _ hacc5 (by have := HLT.out; omega) (fun y _ wx hk => countedOf2_any tb p3 lt c3 ts y wx (hk.cell (hw5.cell t0 trivial) (fun e => by have := hlt5 _ e; dsimp only at this; omega)) (((hs4.keep RReply.ok (Kept.all hw5)).keep RReply.ok (hk.mono (fun k hk e => by have := hlt5 _ e; omega))).mono RReply.ok (fun _ _ => trivial)) (by omega)))
  rw [HTOP.out] at HD5
  rw [← HLT.out] at HD5 HA5 ⊢
  clear hacc5 hlt5 hs4 t0
  go_wp2_with fail
  refine HD5.out.mono ?_
  rintro e w6 ⟨p6, c6, rfl, hacc6, hk6, -⟩
  have hall6 : All w4 w6 := hw5.trans2 hk6 (fun i hi _ e => by have := HA5.out i e; omega)
  obtain ⟨bs, hbs⟩ : ∃ bs, bs = ts.filter (topB ts) := ⟨_, rfl⟩
  have hbl : bs.length ≤ len := by rw [hbs]; have h1 := List.length_filter_le (topB ts) ts; have := HLT.out; omega
  have HBS := Lib.hid hbs
  rw [← hbs] at hacc6 ⊢
  have HT := Lib.hid (tidyReply_any cfR isCmpR 89 #[] e3 (fun x y wx => countedOf4_any x y wx) _ bs w6 hacc6 (by omega))
  have HA6 := Lib.hid (fun k hk => (hacc6.lt k hk).1)
  obtain ⟨lb, hlb⟩ : ∃ l, l = bs.length := ⟨_, rfl⟩
  rw [← hlb] at HT HA6 hbl ⊢
  have hsz4 := hall4.size
  have HLB := Lib.hid hlb
  clear hacc6 hk6 hbs hlb hw5
  go_wp2_with fail
  refine HT.out.mono ?_
  rintro e w7 ⟨p7, c7, out, rfl, hti, hol, hacc7, hk7⟩
  have hall7 : All w1 w7 := (hall4.trans hall6).trans2 hk7 (fun i hi _ e => by have := HA6.out i e; omega)
  have HTI := Lib.hid hti
  have HA := Lib.hid hacc7
  obtain ⟨lo, hlo⟩ : ∃ l, l = out.length := ⟨_, rfl⟩
  have HLO := Lib.hid hlo
  rw [← hlo] at hol ⊢
  clear hti hacc7 hk7 hlo
  go_wp2_with fail
  exact HPOST.out _ _ ⟨p7, c7, out, by rw [← HLO.out]; rfl, by rw [← HBS.out]; exact HTI.out, by have := HLO.out; have := HLB.out; omega, HA.out.base0 (by omega), hkr.trans hall7⟩
end Go.Proofs.YtllkemadaemjeaaGreatDoor
