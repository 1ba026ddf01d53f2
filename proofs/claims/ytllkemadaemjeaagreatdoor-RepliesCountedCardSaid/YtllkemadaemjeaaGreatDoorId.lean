/- Counted: the greatest reply of each paper, in a map, its keys sorted. -/
import Derived.Test.YtllkemadaemjeaaGreatDoorIc
import Derived.Test.YtllkemadaemjeaaGreatDoorMk
import Derived.Test.YtllkemadaemjeaaGreatDoorSp
namespace Go.Proofs.YtllkemadaemjeaaGreatDoor
open Go.RowKit

abbrev repVal (x : Rep3) : Value := .agg #[.string x.paper, .int .i64 x.tm, .string x.words]
noncomputable def cntE (r : RR) (xs : List Rep3) : Int := if rrF r ≠ 0 then rrF r else repsF xs
def bestV (ts : List Rep3) : ByteArray → Option Value := fun p => (bestR ts p).map repVal
theorem bestV_nil : bestV [] = fun _ => none := rfl
theorem bestV_put {ts : List Rep3} {x : Rep3} (h : bestStep x.paper (bestR ts x.paper) x = some x) : putS (bestV ts) x.paper (repVal x) = bestV (ts ++ [x]) := by
  funext s
  unfold bestV putS
  rw [bestR_snoc]
  by_cases hs : s = x.paper
  · subst hs
    rw [if_pos rfl, h]; rfl
  · rw [if_neg hs]; unfold bestStep; rw [if_neg (fun e => hs e.symm)]
theorem bestV_same {ts : List Rep3} {x y : Rep3} (h : bestR ts x.paper = some y) (hb : betterB x y = false) : bestV ts = bestV (ts ++ [x]) := by
  funext s
  unfold bestV
  rw [bestR_snoc]
  by_cases hs : x.paper = s
  · subst hs
    unfold bestStep
    rw [if_pos rfl, h]
    simp [hb]
  · unfold bestStep
    rw [if_neg hs]
theorem bestStep_none {x : Rep3} : bestStep x.paper none x = some x := by unfold bestStep; rw [if_pos rfl]
theorem bestStep_some {x y : Rep3} (hb : betterB x y = true) : bestStep x.paper (some y) x = some x := by unfold bestStep; rw [if_pos rfl]; simp [hb]
theorem bytes_ne2 {a b : ByteArray} (h : a ≠ b) : (a.toList == b.toList) = false := by
  rw [beq_eq_false_iff_ne]
  exact fun e => h (bytes_ext e)
theorem less_asym {a b : List UInt8} (h : Op.bytesLess a b = true) : Op.bytesLess b a = false := by
  cases h2 : Op.bytesLess b a with
  | false => rfl
  | true => have := bl_trans h h2; rw [bl_irrefl] at this; cases this
def outR (ts : List Rep3) (ks : List ByteArray) : List Rep3 := ks.filterMap (bestR ts)
theorem outR_next {ts : List Rep3} {ks : List ByteArray} {j : Nat} {p : ByteArray} {x : Rep3} (hp : ks.take (j + 1) = ks.take j ++ [p]) (hx : bestR ts p = some x) : outR ts (ks.take (j + 1)) = outR ts (ks.take j) ++ [x] := by
  rw [hp, outR, List.filterMap_append]
  simp [outR, hx]
theorem outR_len (ts : List Rep3) (ks : List ByteArray) : (outR ts ks).length ≤ ks.length := List.length_filterMap_le _ _
theorem outR_counted {ts : List Rep3} {ks : List ByteArray} (hp : ks.Pairwise fun x y => Op.bytesLess x.toList y.toList = true) (hm : ∀ s, s ∈ ks ↔ (bestV ts s).isSome = true) : IsCounted ts (outR ts ks) := by
  have hb : ∀ {p : ByteArray} {x : Rep3}, bestR ts p = some x → x.paper = p := fun h => (bestR_some h).2.1
  refine ⟨?_, fun x => ?_⟩
  · unfold outR
    rw [List.pairwise_filterMap]
    refine hp.imp fun {a b} hab x hx y hy => ?_
    rw [hb hx, hb hy]
    exact hab
  · unfold outR
    rw [List.mem_filterMap]
    constructor
    · rintro ⟨p, -, h⟩
      rw [hb h]; exact h
    · intro h
      exact ⟨x.paper, (hm _).2 (by simp [bestV, h]), h⟩
theorem timely_drop {r : RR} {xs : List Rep3} {k : Nat} {x : Rep3} (h : xs.take (k + 1) = xs.take k ++ [x]) (ht : timelyB r x = false) : (xs.take (k + 1)).filter (timelyB r) = (xs.take k).filter (timelyB r) := by
  rw [h, List.filter_append]; simp [ht]
theorem timely_keep {r : RR} {xs : List Rep3} {k : Nat} {x : Rep3} (h : xs.take (k + 1) = xs.take k ++ [x]) (ht : timelyB r x = true) : (xs.take (k + 1)).filter (timelyB r) = (xs.take k).filter (timelyB r) ++ [x] := by
  rw [h, List.filter_append]; simp [ht]
/-- What Counted leaves. -/
def CountedPost (r : RR) (xs : List Rep3) (w : World) (e : Ending) (w' : World) : Prop :=
  (cntE r xs ≠ 0 → e = .returned (.tuple #[.slice none 0 0, .int .i64 (cntE r xs)])) ∧
  (cntE r xs = 0 → ∃ p c out, e = .returned (.tuple #[.slice p out.length c, .int .i64 0]) ∧ IsCounted (xs.filter (timelyB r)) out ∧ out.length ≤ xs.length ∧ Acc RReply 3 79 (fun _ => False) w.heap.size w' (.slice p out.length c) out) ∧ All w w'

/-- slices.Sorted at what maps.Keys handed back. -/
theorem sortedKeys_any {n : Nat} (b : Nat) (m : ByteArray → Option Value) (w : World) (h : MapS Tryz.prog 9 w b n m) (hn : n ≤ 1000000) (hz : ∀ s, (m s).isSome = true → s.size ≤ 1000000) :
    Calls Tryz.prog 74 #[.func (.func 138) #[] #[.pointer (some ⟨w.heap.size, 0, none⟩)]] (w.alloc (.cells #[.map (some b)] 127)) fun e w' =>
      ∃ p c ks, e = .returned (.slice p ks.length c) ∧ ks.length ≤ n ∧ ks.Pairwise (fun x y => Op.bytesLess x.toList y.toList = true) ∧ (∀ s, s ∈ ks ↔ (m s).isSome = true) ∧ Sl RStr 1 (fun _ => True) w' p ks.length ks ∧ All w w' := by
  obtain ⟨D, hown, hsz, hk⟩ := h.keysOut Tryz.underlying9
  refine (callsIn_wide.1 (Tryz.slices_Sorted_keys_74_75 b n D heldR w hown (by unfold maxLen; omega) (by omega))).mono ?_
  rintro e w' ⟨v, ss, rfl, hp, hrow, -, hb⟩
  obtain ⟨hl, hr, hm⟩ := hk ss hp
  have he : (sortL ss).map Value.string = (ss.mergeSort fun x y => decide (x ≤ y)).map Go.Proofs.encStr := by simp [sortL, Go.Proofs.encStr]
  have hacc : Acc RStr 1 9 (fun _ => False) (w.alloc (.cells #[.map (some b)] 127)).heap.size w' v (sortL ss) := Acc.ofStrs (by rw [he, sortL_len]; exact hrow) (fun s hs => hz s ((hm s).1 hs))
  obtain ⟨p, c, rfl, hs⟩ := hacc.sl RStr.ok (by decide) (G := fun _ => True) (fun _ h => h.elim) (fun _ _ => trivial)
  exact ⟨p, c, sortL ss, rfl, by rw [sortL_len]; exact hl, hr, hm, hs, (Kept.alloc _ _ _).trans (Kept.of_below hb)⟩

set_option maxRecDepth 100000 in
set_option maxHeartbeats 12800000 in
theorem counted_any (r : RR) (a : Option Addr) (len cap : Nat) (xs : List Rep3) (w : World) (hs : Sl RReply 3 (fun _ => True) w a len xs) (hl : len ≤ 1000000) (hg : Tabs w) :
    Calls Tryz.prog 32 #[r.val, .slice a len cap] w (CountedPost r xs w) := by
  have Hlen := Lib.hid hs.len
  obtain ⟨ts, hts⟩ : ∃ ts : Nat → List Rep3, ts = fun k => (xs.take k).filter (timelyB r) := ⟨_, rfl⟩
  have HTS := Lib.hid hts
  obtain ⟨er, her⟩ : ∃ e, e = cntE r xs := ⟨_, rfl⟩
  have HER := Lib.hid her
  have HTIM := Lib.hid (fun x => show timelyB r x = (decide (r.fr ≤ x.tm) && decide (x.tm < r.til) && decide ((x.words.size : Int) ≤ r.most)) from rfl)
  have HRR := Lib.hid (show rrF r = if r.fr < 0 ∨ r.til < r.fr then 1 else if 5761440 < r.til then 1 else if r.most < 0 ∨ 6000 < r.most then 1 else 0 from rfl)
  have HCN := Lib.hid (show cntE r xs = if rrF r ≠ 0 then rrF r else repsF xs from rfl)
  have HP0 : ∀ e w', (er ≠ 0 → e = .returned (.tuple #[.slice none 0 0, .int .i64 er])) → (er = 0 → ∃ p c out, e = .returned (.tuple #[.slice p out.length c, .int .i64 0]) ∧ IsCounted (ts len) out ∧ out.length ≤ len ∧ Acc RReply 3 79 (fun _ => False) w.heap.size w' (.slice p out.length c) out) → All w w' → CountedPost r xs w e w' := by
    intro e w' h1 h2 h3
    refine ⟨fun h => ?_, fun h => ?_, h3⟩
    · rw [← HER.out] at h ⊢; exact h1 h
    · obtain ⟨p, c, out, h5, h6, h7, h8⟩ := h2 (HER.out.trans h)
      rw [HTS.out] at h6
      simp only at h6
      rw [List.take_of_length_le (by have := Hlen.out; omega)] at h6
      exact ⟨p, c, out, h5, h6, by have := Hlen.out; omega, h8⟩
  have HPOST := Lib.hid HP0
  clear HP0
  generalize hPo : CountedPost r xs w = Post at *
  obtain ⟨fr, til, most⟩ := r
  dsimp only at HTIM HRR
  have hkr : All w (w.alloc (.cells #[.int .i64 fr, .int .i64 til, .int .i64 most] 66)) := Kept.alloc _ _ _
  have hblk := heap_at w (.cells #[.int .i64 fr, .int .i64 til, .int .i64 most] 66) _ rfl
  obtain ⟨rb, hrb⟩ : ∃ rb, rb = w.heap.size := ⟨_, rfl⟩
  have HRB := Lib.hid hrb
  have r0 := cell_at (i := 0) hblk rfl
  have r1 := cell_at (i := 1) hblk rfl
  have r2 := cell_at (i := 2) hblk rfl
  rw [← hrb] at r0 r1 r2
  have HRC := Lib.hid (fun (wx : World) (k : All (w.alloc (.cells #[.int .i64 fr, .int .i64 til, .int .i64 most] 66)) wx) => (⟨k.cell r0 trivial, k.cell r1 trivial, k.cell r2 trivial⟩ : _ ∧ _ ∧ _))
  have HCK := Lib.hid (checkReplies_any a len cap xs _ (hs.keep RReply.ok hkr) hl (hg.keep hkr))
  have HSX := Lib.hid ((hs.live RReply.ok (by decide)).mono RReply.ok (G := fun k => k < w.heap.size) (fun k hk => hk.2))
  have hrbl : rb < (w.alloc (.cells #[.int .i64 fr, .int .i64 til, .int .i64 most] 66)).heap.size := by rw [hrb]; simp
  clear her hts hs hg hblk hrb
  by_cases h1 : fr < 0 ∨ til < fr
  · have HF := Lib.hid (show er = 1 by rw [HER.out, HCN.out, HRR.out, if_pos h1]; rfl)
    have HD := Lib.hid (decide_eq_true h1)
    clear h1
    go_enter Tryz.func32, Tryz.ntmps32
    go_wp2_with fail
    simp only [← HRB.out]
    generalize w.alloc (.cells #[.int .i64 fr, .int .i64 til, .int .i64 most] 66) = w1 at *
    refine (outside_any _ _ _ _).mono ?_
    rintro e w' ⟨rfl, hh⟩
    subst hh
    rw [HD.out]
    go_wp2_with fail
    exact HPOST.out _ _ (fun _ => by rw [HF.out]; rfl) (fun h => by have := HF.out; omega) hkr
  · have H1 := Lib.hid (decide_eq_false h1)
    by_cases h2 : 5761440 < til
    · have HF := Lib.hid (show er = 1 by rw [HER.out, HCN.out, HRR.out, if_neg h1, if_pos h2]; rfl)
      have d2 := decide_eq_true h2
      clear h1 h2
      go_enter Tryz.func32, Tryz.ntmps32
      go_wp2_with fail
      simp only [← HRB.out]
      generalize w.alloc (.cells #[.int .i64 fr, .int .i64 til, .int .i64 most] 66) = w1 at *
      refine (outside_any _ _ _ _).mono ?_
      rintro e w' ⟨rfl, hh⟩
      subst hh
      rw [H1.out]
      go_wp2_with fail
      exact HPOST.out _ _ (fun _ => by rw [HF.out]; rfl) (fun h => by have := HF.out; omega) hkr
    · have d2 := decide_eq_false h2
      by_cases h3 : most < 0 ∨ 6000 < most
      · have HF := Lib.hid (show er = 1 by rw [HER.out, HCN.out, HRR.out, if_neg h1, if_neg h2, if_pos h3]; rfl)
        have HD := Lib.hid (decide_eq_true h3)
        clear h1 h2 h3
        go_enter Tryz.func32, Tryz.ntmps32
        go_wp2_with fail
        simp only [← HRB.out]
        generalize w.alloc (.cells #[.int .i64 fr, .int .i64 til, .int .i64 most] 66) = w1 at *
        refine (outside_any _ _ _ _).mono ?_
        rintro e w' ⟨rfl, hh⟩
        subst hh
        rw [H1.out]
        go_wp2_with fail
        refine (outside_any _ _ _ _).mono ?_
        rintro e w' ⟨rfl, hh⟩
        subst hh
        rw [HD.out]
        go_wp2_with fail
        exact HPOST.out _ _ (fun _ => by rw [HF.out]; rfl) (fun h => by have := HF.out; omega) hkr
      · have H3 := Lib.hid (decide_eq_false h3)
        have HER2 := Lib.hid (show er = repsF xs by
          have h0 : rrF ⟨fr, til, most⟩ = 0 := by rw [HRR.out, if_neg h1, if_neg h2, if_neg h3]
          rw [HER.out, HCN.out, h0]; rfl)
        clear h1 h2 h3
        obtain ⟨rf, hrf⟩ : ∃ e, e = repsF xs := ⟨_, rfl⟩
        have HRF := Lib.hid hrf
        rw [← hrf] at HCK
        clear hrf
        go_enter Tryz.func32, Tryz.ntmps32
        go_wp2_with fail
        simp only [← HRB.out]
        generalize w.alloc (.cells #[.int .i64 fr, .int .i64 til, .int .i64 most] 66) = w1 at *
        refine (outside_any _ _ _ _).mono ?_
        rintro e w' ⟨rfl, hh⟩
        subst hh
        rw [H1.out]
        go_wp2_with fail
        refine (outside_any _ _ _ _).mono ?_
        rintro e w' ⟨rfl, hh⟩
        subst hh
        rw [H3.out]
        go_wp2_with fail
        refine HCK.out.mono ?_
        rintro e w2 ⟨rfl, hw2⟩
        have hk2 := hkr.trans hw2
        clear r0 r1 r2
        by_cases hf : rf = 0
        · have HF := Lib.hid (show er = 0 from HER2.out.trans (HRF.out.symm.trans hf))
          subst hf
          have hmm := @run_makeMap Tryz.prog
          have hsc0 : MapS Tryz.prog 9 (w2.alloc (.map #[] 0)) w2.heap.size 0 (bestV (ts 0)) := by
            rw [HTS.out]
            exact MapS.made Tryz.prog 9 w2
          have hkm : All w2 (w2.alloc (.map #[] 0)) := Kept.alloc _ _ _
          obtain ⟨mb, hmb⟩ : ∃ mb, mb = w2.heap.size := ⟨_, rfl⟩
          have HMB := Lib.hid hmb
          have hsz1 := hkr.size
          have hsz2 := hw2.size
          have hmw : w.heap.size ≤ mb := by omega
          have hrm : rb ≠ mb := by omega
          rw [← hmb] at hsc0
          have hk3 := hk2.trans hkm
          have HRC3 := Lib.hid (fun (wx : World) (k : But mb (w2.alloc (.map #[] 0)) wx) => (⟨k.cell (HRC.out _ (hw2.trans hkm)).1 hrm, k.cell (HRC.out _ (hw2.trans hkm)).2.1 hrm, k.cell (HRC.out _ (hw2.trans hkm)).2.2 hrm⟩ : _ ∧ _ ∧ _))
          have HS3 := Lib.hid (fun (wx : World) (k : But mb (w2.alloc (.map #[] 0)) wx) => ((HSX.out.keep RReply.ok (Kept.all hk3)).mono RReply.ok (G := fun k => k ≠ mb) (fun i hi => by omega)).keep RReply.ok k)
          clear hmb hkr hw2 hkm hk2 hsz1 hsz2 hrbl
          go_wp2_with fail
          simp only [← HMB.out]
          generalize w2.alloc (.map #[] 0) = w3 at *
          go_loopw [41] (fun i wr => ∃ k : Nat, k ≤ len ∧ i = .int .i64 k ∧ ∃ n, n ≤ k ∧ MapS Tryz.prog 9 wr mb n (bestV (ts k)) ∧ But mb w3 wr) (fun i _ => len - (intOf i).toNat)
          case atStart => exact ⟨0, Nat.zero_le _, rfl, 0, Nat.zero_le _, hsc0, Kept.refl _ _⟩
          case round =>
            clear hsc0 hmm
            obtain ⟨k, hk, rfl, n, hnk, hsc, hwr⟩ := hrel
            obtain ⟨wo, rfl⟩ : ∃ wo : World, wo = wr := ⟨_, rfl⟩
            by_cases hlt : k < len
            · obtain ⟨b, off, x, ha, -, c0, c1, c2, ⟨hz1, hz2⟩, -, -, hxt⟩ := (HS3.out _ hwr).atReply hlt
              subst ha
              have HXT := Lib.hid hxt
              have hwa := hwr.then_alloc (.cells #[.string x.paper, .int .i64 x.tm, .string x.words] 79)
              obtain ⟨r0, r1, r2⟩ := HRC3.out _ hwa
              have hblk := heap_at wo (.cells #[.string x.paper, .int .i64 x.tm, .string x.words] 79) _ rfl
              have e0 := cell_at (i := 0) hblk rfl
              have e1 := cell_at (i := 1) hblk rfl
              have e2 := cell_at (i := 2) hblk rfl
              have hsca : MapS Tryz.prog 9 (wo.alloc (.cells #[.string x.paper, .int .i64 x.tm, .string x.words] 79)) mb n (bestV (ts k)) := hsc.keep (Kept.alloc (fun _ => True) _ _) trivial
              clear hxt hsc
              by_cases t1 : x.tm < fr
              · have HN := Lib.hid (show ts (k + 1) = ts k by rw [HTS.out]; exact timely_drop HXT.out (by rw [HTIM.out, show decide (fr ≤ x.tm) = false by simp; omega]; rfl))
                have d1 := decide_eq_true t1
                clear t1 hblk
                go_wp2_with fail
                go_roundw
                case rel => exact ⟨k + 1, by omega, by go_num, n, by omega, by rw [HN.out]; exact hsca, hwa⟩
                case measure => simp [intOf]; omega
              · have d1 := decide_eq_false t1
                by_cases t2 : til ≤ x.tm
                · have HN := Lib.hid (show ts (k + 1) = ts k by rw [HTS.out]; exact timely_drop HXT.out (by rw [HTIM.out, show decide (x.tm < til) = false by simp; omega, Bool.and_false]; rfl))
                  have d2 := decide_eq_true t2
                  clear t1 t2 hblk
                  go_wp2_with fail
                  go_roundw
                  case rel => exact ⟨k + 1, by omega, by go_num, n, by omega, by rw [HN.out]; exact hsca, hwa⟩
                  case measure => simp [intOf]; omega
                · have d2 := decide_eq_false t2
                  by_cases t3 : most < (x.words.size : Int)
                  · have HN := Lib.hid (show ts (k + 1) = ts k by rw [HTS.out]; exact timely_drop HXT.out (by rw [HTIM.out, show decide ((x.words.size : Int) ≤ most) = false by simp; omega, Bool.and_false]))
                    have d3 := decide_eq_true t3
                    clear t1 t2 t3 hblk
                    go_wp2_with fail
                    go_roundw
                    case rel => exact ⟨k + 1, by omega, by go_num, n, by omega, by rw [HN.out]; exact hsca, hwa⟩
                    case measure => simp [intOf]; omega
                  · have d3 := decide_eq_false t3
                    have HN := Lib.hid (show ts (k + 1) = ts k ++ [x] by rw [HTS.out]; exact timely_keep HXT.out (by rw [HTIM.out, show decide (fr ≤ x.tm) = true by simp; omega, show decide (x.tm < til) = true by simp; omega, show decide ((x.words.size : Int) ≤ most) = true by simp; omega]; rfl))
                    have l1 := hsca.look_ok Tryz.underlying9 Tryz.underlying127 (Tryz.zeroValue79 _) x.paper hz1
                    clear t1 t2 t3
                    cases hb : bestR (ts k) x.paper with
                    | none =>
                      have HB := Lib.hid (show putS (bestV (ts k)) x.paper (repVal x) = bestV (ts (k + 1)) by rw [HN.out]; exact bestV_put (by rw [hb]; exact bestStep_none))
                      rw [show bestV (ts k) x.paper = none by simp [bestV, hb]] at l1
                      simp only [Option.getD_none, Option.isSome_none] at l1
                      have hwc := hwa.then_alloc (.cells #[.string ⟨#[]⟩, .int .i64 0, .string ⟨#[]⟩] 79)
                      have hblk2 := heap_old (.cells #[.string ⟨#[]⟩, .int .i64 0, .string ⟨#[]⟩] 79) hblk
                      have g0 := cell_at (i := 0) hblk2 rfl
                      have g1 := cell_at (i := 1) hblk2 rfl
                      have g2 := cell_at (i := 2) hblk2 rfl
                      obtain ⟨w8, hput, hm8, hb8⟩ := (hsca.keep (Kept.alloc (fun _ => True) _ (.cells #[.string ⟨#[]⟩, .int .i64 0, .string ⟨#[]⟩] 79)) trivial).put Tryz.underlying9 Tryz.underlying127 (by omega) x.paper hz1 (repVal x)
                      rw [HB.out] at hm8
                      have hk8 := hwc.trans hb8
                      clear hb hblk hblk2 hsca hb8 hwc
                      go_wp2_with fail
                      go_roundw
                      case rel => exact ⟨k + 1, by omega, by go_num, n + 1, by omega, hm8, hk8⟩
                      case measure => simp [intOf]; omega
                    | some y =>
                      rw [show bestV (ts k) x.paper = some (repVal y) by simp [bestV, hb]] at l1
                      simp only [Option.getD_some, Option.isSome_some] at l1
                      have hwc := hwa.then_alloc (.cells #[.string y.paper, .int .i64 y.tm, .string y.words] 79)
                      have hblk2 := heap_old (.cells #[.string y.paper, .int .i64 y.tm, .string y.words] 79) hblk
                      have hblk3 := heap_at (wo.alloc (.cells #[.string x.paper, .int .i64 x.tm, .string x.words] 79)) (.cells #[.string y.paper, .int .i64 y.tm, .string y.words] 79) (wo.heap.size + 1) (by simp)
                      have g0 := cell_at (i := 0) hblk2 rfl
                      have g1 := cell_at (i := 1) hblk2 rfl
                      have g2 := cell_at (i := 2) hblk2 rfl
                      have y1 := cell_at (i := 1) hblk3 rfl
                      have y2 := cell_at (i := 2) hblk3 rfl
                      have hscc := hsca.keep (Kept.alloc (fun _ => True) _ (.cells #[.string y.paper, .int .i64 y.tm, .string y.words] 79)) trivial
                      have HMS := Lib.hid (fun h => show bestV (ts (k + 1)) = bestV (ts k) by rw [HN.out]; exact (bestV_same hb h).symm)
                      have HMP := Lib.hid (fun h => show putS (bestV (ts k)) x.paper (repVal x) = bestV (ts (k + 1)) by rw [HN.out]; exact bestV_put (by rw [hb]; exact bestStep_some h))
                      obtain ⟨w8, hput, hm8, hb8⟩ := hscc.put Tryz.underlying9 Tryz.underlying127 (by omega) x.paper hz1 (repVal x)
                      have hk8 := hwc.trans hb8
                      have HM8 := Lib.hid hm8
                      have HSCC := Lib.hid hscc
                      clear hb hblk hblk2 hblk3 hsca hb8 hm8 hscc
                      by_cases b1 : y.tm < x.tm
                      · have HP1 := Lib.hid (HMP.out (by simp [betterB, b1]))
                        have q1 := decide_eq_true b1
                        clear b1
                        go_wp2_with fail
                        go_roundw
                        case rel => exact ⟨k + 1, by omega, by go_num, n + 1, by omega, by rw [← HP1.out]; exact HM8.out, hk8⟩
                        case measure => simp [intOf]; omega
                      · have q1 := decide_eq_false b1
                        by_cases b2 : x.tm = y.tm
                        · have q2 : (x.tm == y.tm) = true := by simpa using b2
                          cases b3 : Op.bytesLess x.words.toList y.words.toList with
                          | true =>
                            have HP1 := Lib.hid (HMS.out (by simp [betterB, ltB, b1, less_asym b3]))
                            clear b1 b2
                            go_wp2_with fail
                            go_roundw
                            case rel => exact ⟨k + 1, by omega, by go_num, n, by omega, by rw [HP1.out]; exact HSCC.out, hwc⟩
                            case measure => simp [intOf]; omega
                          | false =>
                            by_cases b4 : x.words = y.words
                            · have q4 : (x.words.toList == y.words.toList) = true := by simp [b4]
                              have HP1 := Lib.hid (HMS.out (by simp [betterB, ltB, b1, b4, bl_irrefl]))
                              clear b1 b2 b4
                              go_wp2_with fail
                              go_roundw
                              case rel => exact ⟨k + 1, by omega, by go_num, n, by omega, by rw [HP1.out]; exact HSCC.out, hwc⟩
                              case measure => simp [intOf]; omega
                            · have q4 := bytes_ne2 b4
                              have HP1 := Lib.hid (HMP.out (by simp [betterB, ltB, b2, bl_total b3 (fun e => b4 (bytes_ext e))]))
                              clear b1 b2 b4
                              go_wp2_with fail
                              go_roundw
                              case rel => exact ⟨k + 1, by omega, by go_num, n + 1, by omega, by rw [← HP1.out]; exact HM8.out, hk8⟩
                              case measure => simp [intOf]; omega
                        · have q2 : (x.tm == y.tm) = false := by simpa using b2
                          have HP1 := Lib.hid (HMS.out (by simp [betterB, b1, b2]))
                          clear b1 b2
                          go_wp2_with fail
                          go_roundw
                          case rel => exact ⟨k + 1, by omega, by go_num, n, by omega, by rw [HP1.out]; exact HSCC.out, hwc⟩
                          case measure => simp [intOf]; omega
            · have hd : decide ((k : Int) < (len : Int)) = false := by simp; omega
              have hke : k = len := by omega
              subst hke
              have hsm : ∀ p x, bestR (ts k) p = some x → RepSmall x ∧ x.paper = p := fun p x h => by
                obtain ⟨hx1, hx2, -⟩ := bestR_some h
                refine ⟨?_, hx2⟩
                rw [HTS.out] at hx1
                have hx3 := List.mem_of_mem_take (List.mem_filter.1 hx1).1
                obtain ⟨i, hi, rfl⟩ := List.getElem_of_mem hx3
                obtain ⟨_, _, x, -, -, -, -, -, hsm, hxi, -, -⟩ := (HS3.out _ hwr).atReply (k := i) (by have := Hlen.out; omega)
                rw [List.getElem?_eq_getElem hi] at hxi
                injection hxi with hxi
                rw [hxi]; exact hsm
              have HSM := Lib.hid hsm
              have HSK := Lib.hid (sortedKeys_any mb (bestV (ts k)) wo hsc (by omega) (fun s h => by
                cases hb : bestR (ts k) s with
                | none => simp [bestV, hb] at h
                | some x =>
                  obtain ⟨h1, h2⟩ := hsm s x hb
                  rw [← h2]; exact h1.1))
              have HMK := Lib.hid (callsIn_wide.1 (Tryz.maps_Keys_75 (some mb) wo))
              have HSC := Lib.hid hsc
              have hkw : All w wo := hk3.trans2 hwr (fun i hi _ e => by omega)
              clear hsm hsc hwr hk3
              go_wp2_with fail
              refine HMK.out.mono ?_
              rintro e w' ⟨rfl, rfl⟩
              go_wp2_with fail
              refine HSK.out.mono ?_
              rintro e w5 ⟨pk, ck, ks, rfl, hkl, hkp, hkm, hks, hw5⟩
              have HKP := Lib.hid hkp
              have HKM := Lib.hid hkm
              have hsz5 := hw5.size
              have hsz0 := hkw.size
              obtain ⟨lk, hlk⟩ : ∃ l, l = ks.length := ⟨_, rfl⟩
              have HLK := Lib.hid hlk
              rw [← hlk] at hks hkl ⊢
              clear hkp hkm hlk
              go_wp2_with fail
              go_loopw [12, 106] (fun v i wr => ∃ j : Nat, j ≤ lk ∧ i = .int .i64 j ∧ Acc RReply 3 79 (fun _ => False) w5.heap.size wr v (outR (ts k) (ks.take j)) ∧ All w5 wr) (fun _ i _ => lk - (intOf i).toNat)
              case atStart => exact ⟨0, Nat.zero_le _, rfl, Acc.nil _ _ _ _ _ _, Kept.refl _ _⟩
              case round =>
                obtain ⟨j, hj, rfl, hacc, hwr⟩ := hrel
                obtain ⟨wi, rfl⟩ : ∃ wi : World, wi = wr := ⟨_, rfl⟩
                obtain ⟨av, cv, rfl, hcv⟩ := hacc.form
                obtain ⟨os, hos⟩ : ∃ os, os = outR (ts k) (ks.take j) := ⟨_, rfl⟩
                have HOS := Lib.hid hos
                have hol : os.length ≤ j := by rw [hos]; exact Nat.le_trans (outR_len _ _) (List.length_take_le _ _)
                rw [← hos] at hacc hcv ⊢
                clear hos
                obtain ⟨lo, hlo⟩ : ∃ l, l = os.length := ⟨_, rfl⟩
                have HLO := Lib.hid hlo
                rw [← hlo] at hacc hcv hol ⊢
                clear hlo
                by_cases hjl : j < lk
                · obtain ⟨bk, ok, p, hap, -, kc, hkz, hpk, -, hpt⟩ := (hks.keep RStr.ok hwr).atStr hjl
                  subst hap
                  have hsome := (HKM.out p).1 (List.mem_of_getElem? hpk)
                  cases hb : bestR (ts k) p with
                  | none => simp [bestV, hb] at hsome
                  | some x =>
                    have HNX := Lib.hid (outR_next hpt hb)
                    have hsmx := (HSM.out p x hb).1
                    have l2 := (HSC.out.keep (F := fun _ => True) (hw5.trans hwr) trivial).look Tryz.underlying9 Tryz.underlying127 (Tryz.zeroValue79 _) p hkz
                    rw [show bestV (ts k) p = some (repVal x) by simp [bestV, hb]] at l2
                    simp only [Option.getD_some] at l2
                    have hsz6 := hwr.size
                    clear hb hsome hpk hpt
                    go_wp2_with (at_builtin; refine wp_append1 RReply.ok _ rfl _ _ 68 rfl w5.heap.size 79 (.agg #[.string ⟨#[]⟩, .int .i64 0, .string ⟨#[]⟩]) 3 40 Tryz.underlying68 (by kernel_rfl) rfl (by decide) (fun _ => False) _ os rfl (hacc.keepAll RReply.ok (Kept.alloc _ _ _)) ⟨_, 0, none⟩ 1 [.string x.paper, .int .i64 x.tm, .string x.words] rfl rfl (World.news_of_block (cs := #[.string x.paper, .int .i64 x.tm, .string x.words]) (heap_alloc_new wi _)) (by simp [Value.oneCell']) x ⟨rfl, hsmx⟩ (by have := HLO.out; omega) (by decide) (by simp; omega) ?_)
                    intro p' c' w9 hacc9 hg9 _
                    have hk9 : All w5 w9 := (hwr.then_alloc _).grown hg9 (fun k hk => Or.inl (hacc.lt k hk).1)
                    clear hg9 hacc
                    go_wp2_with fail
                    go_roundw
                    case rel => exact ⟨j + 1, by omega, by go_num, by rw [HNX.out, ← HOS.out]; exact hacc9, hk9⟩
                    case measure => simp [intOf]; omega
                · have hdj : decide ((j : Int) < (lk : Int)) = false := by simp; omega
                  have hje : ks.take j = ks := List.take_of_length_le (by have := HLK.out; omega)
                  have HOK := Lib.hid (show os = outR (ts k) ks by rw [HOS.out, hje])
                  clear hje
                  go_wp2_with fail
                  exact HPOST.out _ _ (fun h => absurd HF.out h) (fun _ => ⟨_, cv, os, by rw [← HLO.out]; rfl, by rw [HOK.out]; exact outR_counted HKP.out HKM.out, by have := HLO.out; omega, by rw [← HLO.out]; exact hacc.base0 (by omega)⟩) (hkw.trans (hw5.trans hwr))
        · have hne : (rf != 0) = true := by simpa using hf
          have HF := Lib.hid (show er = rf from HER2.out.trans HRF.out.symm)
          have HF0 := Lib.hid hf
          clear hf
          go_wp2_with fail
          exact HPOST.out _ _ (fun _ => by rw [HF.out]; rfl) (fun h => absurd (HF.out.symm.trans h) HF0.out) hk2
end Go.Proofs.YtllkemadaemjeaaGreatDoor
