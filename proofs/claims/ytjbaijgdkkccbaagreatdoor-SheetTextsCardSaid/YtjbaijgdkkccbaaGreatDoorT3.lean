/- TextSheet, SheetLines. -/
import Derived.Test.YtjbaijgdkkccbaaGreatDoorT1
import Derived.Test.YtjbaijgdkkccbaaGreatDoorM6
import Derived.Test.YtjbaijgdkkccbaaGreatDoorAc
namespace Go.Proofs.YtjbaijgdkkccbaaGreatDoor
open Go.RowKit

/-- The place of an element of a row of strings that was written out. -/
def QPS (zs : List ByteArray) (i : Nat) (v : Value) (w : World) : Prop := ∃ b, v = .pointer (some ⟨b, i, none⟩) ∧ w.heap[b]? = some (.cells (zs.map Value.string).toArray 9 (0, 0))
theorem QPS.stays (zs : List ByteArray) (i : Nat) : Stays All (QPS zs i) := fun _ _ _ k ⟨b, h1, h2⟩ => ⟨b, h1, k.heap h2 trivial⟩
theorem kindWords_any (w : World) : Calls Tryz.prog 112 #[] w fun e w' => (∃ v, e = .returned v ∧ QStrs [emptB, scorB, choiB, wordB] v w') ∧ All w w' := by
  have hq : QStrs [emptB, scorB, choiB, wordB] (.slice (some ⟨w.heap.size, 0, none⟩) 4 4) (w.alloc (.cells #[.string ⟨#[]⟩, .string ⟨#[115, 99, 111, 114, 101]⟩, .string ⟨#[99, 104, 111, 105, 99, 101]⟩, .string ⟨#[119, 111, 114, 100, 115]⟩] 9)) := ⟨_, rfl, heap_at _ _ _ rfl⟩
  have hk : All w (w.alloc (.cells #[.string ⟨#[]⟩, .string ⟨#[115, 99, 111, 114, 101]⟩, .string ⟨#[99, 104, 111, 105, 99, 101]⟩, .string ⟨#[119, 111, 114, 100, 115]⟩] 9)) := Kept.alloc _ _ _
  have HQ := Lib.hid hq
  have HK := Lib.hid hk
  clear hq hk
  go_enter Tryz.func112, Tryz.ntmps112
  go_wp2_with fail
  go_ret
  exact ⟨⟨_, rfl, HQ.out⟩, HK.out⟩
theorem Lns.row {w : World} {lb : Nat} {l : List UInt8} (h : Lns w lb l) : ∃ a c, w.cell? ⟨lb, 1, none⟩ = some (.slice a l.length c) := by
  rcases h with ⟨rfl, h2⟩ | ⟨h1, h2⟩
  · exact ⟨none, 0, cell_at (i := 1) h2 rfl⟩
  · obtain ⟨hB, v, hbk, hown, hne⟩ := h2
    have c1 := cell_at (i := 1) hbk rfl
    rw [Lib.byteCells_length] at hown
    rcases hown.2 with ⟨rfl, h0⟩ | ⟨g, cap, cur, fz, rfl, -⟩
    · rw [h0]; exact ⟨none, 0, c1⟩
    · exact ⟨_, cap, c1⟩
theorem lenL_any (lb : Nat) (l : List UInt8) (w : World) (h : Lns w lb l) : Calls Tryz.prog 182 #[.pointer (some ⟨lb, 0, none⟩)] w fun e w' => e = .returned (.int .i64 (l.length : Int)) ∧ All w w' := by
  obtain ⟨a, c, c1⟩ := h.row
  clear h
  go_enter Tryz.func182, Tryz.ntmps182
  go_wp2_with fail
  go_ret
  exact ⟨rfl, Kept.refl _ _⟩
theorem strL_any (lb : Nat) (l : List UInt8) (w : World) (h : Lns w lb l) : Calls Tryz.prog 171 #[.pointer (some ⟨lb, 0, none⟩)] w fun e w' => e = .returned (.string ⟨l.toArray⟩) ∧ LnK lb w w' := by
  rcases h with ⟨rfl, h2⟩ | ⟨h1, h2⟩
  · exact stringL_nil lb _ w h2
  · exact stringL_k lb l w (.inr h2) h1
set_option maxHeartbeats 1000000 in
theorem linesText_any (lb : Nat) (l : List UInt8) (w : World) (h : Lns w lb l) (hz : l.length ≤ 200000) : Calls Tryz.prog 114 #[.pointer (some ⟨lb, 0, none⟩)] w fun e w' => e = .returned (.tuple #[.string ⟨l.toArray⟩, .int .i64 0]) ∧ LnK lb w w' := by
  have HL := Lib.hid (lenL_any lb l w h)
  have HS := Lib.hid (fun (wx : World) (k : All w wx) => strL_any lb l wx (h.keep k))
  have hlt := h.lt
  have hd : decide ((200000 : Int) < (l.length : Int)) = false := by simp; omega
  obtain ⟨n, hn⟩ : ∃ n, n = l.length := ⟨_, rfl⟩
  rw [← hn] at HL hd
  obtain ⟨s, hs⟩ : ∃ s : ByteArray, s = ⟨l.toArray⟩ := ⟨_, rfl⟩
  rw [← hs] at HS ⊢
  clear h hz hn hs
  go_enter Tryz.func114, Tryz.ntmps114
  go_wp2_with fail
  refine HL.out.mono ?_
  rintro e w2 ⟨rfl, hk2⟩
  go_wp2_with fail
  refine (HS.out _ hk2).mono ?_
  rintro e w3 ⟨rfl, hk3⟩
  have hfin := Lib.hid ((LnK.all hk2 (Nat.le_of_lt hlt)).trans hk3)
  clear hk2 hk3
  go_wp2_with fail
  go_ret2
  exact ⟨rfl, hfin.out⟩
/-- The first words of a question's line. -/
def flagN (needed : Bool) : List ByteArray := if needed then [needB] else []
def flagsQ (needed secret : Bool) : List ByteArray := flagN needed ++ (if secret then [secrB] else [])
theorem flagN_len (n : Bool) : (flagN n).length ≤ 1 := by cases n <;> simp [flagN]
theorem flagsQ_len (n s : Bool) : (flagsQ n s).length ≤ 2 := by cases n <;> cases s <;> simp [flagsQ, flagN]
theorem flagsQ_no (n : Bool) : flagsQ n false = flagN n := by simp [flagsQ]
theorem flagsQ_yes (n : Bool) : flagsQ n true = flagN n ++ [secrB] := by simp [flagsQ]
theorem words_1 (q : Qst) (h : q.kind = 1) : wordsQ q = flagsQ q.needed q.secret ++ [scorB, q.key, itoaB q.most] := by simp [wordsQ, headQ, flagsQ, flagN, h, kindW]
theorem words_2 (q : Qst) (h : q.kind = 2) : wordsQ q = flagsQ q.needed q.secret ++ choiB :: q.key :: q.opts := by simp [wordsQ, headQ, flagsQ, flagN, h, kindW]
theorem words_3 (q : Qst) (h : q.kind = 3) : wordsQ q = flagsQ q.needed q.secret ++ [wordB, q.key, itoaB q.most] := by simp [wordsQ, headQ, flagsQ, flagN, h, kindW]
theorem wordsQ_ne (q : Qst) : wordsQ q ≠ [] := by unfold wordsQ headQ; simp

set_option maxRecDepth 100000 in
set_option maxHeartbeats 12800000 in
theorem textSheet_any (a : Option Addr) (len cap : Nat) (xs : List Qst) (w : World) (hs : Sl RQst 6 (fun _ => True) w a len xs) (hl : len ≤ 1000000) (hg : GlobP w) :
    Calls Tryz.prog 43 #[.slice a len cap] w fun e w' => e = .returned (.tuple #[.string (if sheetF xs = 0 then ⟨(sheetL xs).toArray⟩ else ⟨#[]⟩), .int .i64 (sheetF xs)]) ∧ All w w' := by
  have HC := Lib.hid (checkSheet_any a len cap xs w hs hl)
  have HY := Lib.hid (fun (wx : World) (k : Kept (fun i => i < w.heap.size) w wx) => (((hs.live RQst.ok (by decide)).mono RQst.ok (fun k hk => hk.2)).keep RQst.ok k).mono RQst.ok (G := fun _ => True) (fun _ _ => trivial))
  have HG := Lib.hid hg
  have hlen := hs.len
  by_cases h0 : sheetF xs = 0
  · obtain ⟨hfit, h30⟩ := sheetF_fitT h0
    have hZ := sheetL_le xs hfit
    rw [h0] at HC ⊢
    rw [if_pos rfl]
    have HF := Lib.hid hfit
    obtain ⟨tx, htx⟩ : ∃ s, s = sheetL xs := ⟨_, rfl⟩
    rw [← htx] at hZ ⊢
    have HTX := Lib.hid htx
    clear hs hg h0 hfit htx
    go_enter Tryz.func43, Tryz.ntmps43
    go_wp2_with fail
    refine HC.out.mono ?_
    rintro e w1 ⟨rfl, hw1⟩
    have hk1 : All w1 (w1.alloc (.cells #[.pointer none, .slice none 0 0] 170)) := Kept.alloc _ _ _
    have hb := heap_at w1 (.cells #[.pointer none, .slice none 0 0] 170) _ rfl
    obtain ⟨lb, hlb⟩ : ∃ b, b = w1.heap.size := ⟨_, rfl⟩
    have HLB := Lib.hid hlb
    have hwl : w.heap.size ≤ lb := by have := hw1.size; omega
    have hls : (w1.alloc (.cells #[.pointer none, .slice none 0 0] 170)).heap.size = lb + 1 := by simp; omega
    have hk0 : Kept (fun i => i < lb) w (w1.alloc (.cells #[.pointer none, .slice none 0 0] 170)) := Kept.all (hw1.trans hk1)
    rw [← hlb] at hb
    clear hlb HC
    go_upto_region 5 with fail
    simp only [← HLB.out]
    generalize w1.alloc (.cells #[.pointer none, .slice none 0 0] 170) = w2 at *
    go_wp2_with fail
    go_loopw [18] (fun i wr => ∃ k : Nat, k ≤ len ∧ i = .int .i64 k ∧ Lns wr lb (sheetL (xs.take k)) ∧ LnK lb w2 wr) (fun i _ => len - (intOf i).toNat)
    case atStart => exact ⟨0, Nat.zero_le _, rfl, .inl ⟨rfl, hb⟩, LnK.refl _ _⟩
    case round =>
      clear hb
      obtain ⟨k, hkn, rfl, hlk, hwr⟩ := hrel
      obtain ⟨wo, rfl⟩ : ∃ wo : World, wo = wr := ⟨_, rfl⟩
      by_cases hlt : k < len
      · obtain ⟨b, off, x, oa, oc, rfl, -, c0, c1, c2, c3, c4, c5, hcp, hsm, hop, hxk, htk⟩ := (HY.out wo ((hk0.mono (fun _ h => by omega)).trans ((kept_belowL hwr.low).mono (fun _ h => by omega)))).atQst hlt
        have HT := Lib.hid (sheetL_succ htk)
        have hq := HF.out x (List.mem_of_getElem? hxk)
        have hz1 := lineQ_len hq
        have hz2 := sheetL_take xs k
        rw [← HTX.out] at hz2
        have hwq := wordsQ_len hq
        obtain ⟨hq1, hq2, hq3, hq4, hq5, -, hq7, hq8⟩ := hq
        have W1 := Lib.hid (words_1 x)
        have W2 := Lib.hid (words_2 x)
        have W3 := Lib.hid (words_3 x)
        have WN := Lib.hid (wordsQ_ne x)
        obtain ⟨ws, hws⟩ : ∃ z, z = wordsQ x := ⟨_, rfl⟩
        rw [← hws] at HT hz1 hwq W1 W2 W3 WN
        have hwz := hlk.lt
        obtain ⟨lk, hlke⟩ : ∃ z, z = sheetL (xs.take k) := ⟨_, rfl⟩
        rw [← hlke] at hlk hz2 HT
        obtain ⟨key, kind, most, opts, needed, secret⟩ := x
        dsimp only at c0 c1 c2 c3 c4 c5 hcp hsm hop hq1 hq2 hq3 hq4 hq5 hq7 hq8 W1 W2 W3
        have hka : All wo (wo.alloc (.cells #[.string key, .int .i64 kind, .int .i64 most, .slice oa opts.length oc, .bool needed, .bool secret] 146)) := Kept.alloc _ _ _
        have hab := heap_at wo (.cells #[.string key, .int .i64 kind, .int .i64 most, .slice oa opts.length oc, .bool needed, .bool secret] 146) _ rfl
        obtain ⟨ab, habe⟩ : ∃ q, q = wo.heap.size := ⟨_, rfl⟩
        have HAB := Lib.hid habe
        rw [← habe] at hab
        have hlka := hlk.keep hka
        have hwa := hwr.trans (LnK.all hka (Nat.le_of_lt hwz))
        have hltA : lb < (wo.alloc (.cells #[.string key, .int .i64 kind, .int .i64 most, .slice oa opts.length oc, .bool needed, .bool secret] 146)).heap.size := by simp; omega
        have hop2 := hop.keep RStr.ok hka
        have hops := hop.len
        have HQ := Lib.hid hq5
        have HS := Lib.hid hsm
        clear hlk hwr habe hlke hop hka hws hxk htk hq5 hsm
        go_upto_region 8 with fail
        simp only [← HAB.out]
        clear c0 c1 c2 c3 c4 c5
        generalize wo.alloc (.cells #[.string key, .int .i64 kind, .int .i64 most, .slice oa opts.length oc, .bool needed, .bool secret] 146) = wa at *
        have e0 := cell_at (i := 0) hab rfl
        have e1 := cell_at (i := 1) hab rfl
        have e2 := cell_at (i := 2) hab rfl
        have e3 := cell_at (i := 3) hab rfl
        have e4 := cell_at (i := 4) hab rfl
        have e5 := cell_at (i := 5) hab rfl
        have HBX := Lib.hid (fun (wx : World) (k : All wa wx) => k.heap hab trivial)
        have HLK := Lib.hid (fun (wx : World) (k : All wa wx) => hlka.keep k)
        have HOP := Lib.hid (fun (wx : World) (k : All wa wx) => hop2.keep RStr.ok k)
        have HWA := Lib.hid hwa
        clear hab hlka hop2 hwa e0 e1 e2 e3 e5
        go_upto_if 23 with fail
        go_cut [8] (fun v wx => Acc RStr 1 9 (fun _ => False) wa.heap.size wx v (flagN needed) ∧ All wa wx)
        case first =>
          have hacc := Acc.nil RStr 1 9 (fun _ => False) wa.heap.size wa
          have hall : All wa wa := Kept.refl _ _
          cases needed with
          | false =>
            have hfa := Lib.hid hacc
            have hfl := Lib.hid hall
            clear hacc hall
            go_wp2_with fail
            go_meet
            exact ⟨hfa.out, hfl.out⟩
          | true =>
            have hwz := hall.size
            go_wp2_with (at_builtin; refine wp_append1 RStr.ok _ rfl _ _ 29 rfl wa.heap.size 9 (.string ⟨#[]⟩) 1 16 Tryz.underlying29 (by kernel_rfl) rfl (by decide) (fun _ => False) _ ([]) rfl (hacc.keepAll RStr.ok (Kept.alloc _ _ _)) ⟨_, 0, none⟩ 1 [.string needB] rfl rfl (World.news_of_block (cs := #[.string needB]) (heap_at _ _ _ (by simp))) (by simp [Value.oneCell']) needB ⟨rfl, by decide⟩ (by decide) (by decide) (by simp <;> omega) ?_)
            intro p' c' w9 hacc9 hg9 _
            have hw9 := Lib.hid ((hall.then_alloc _).grown hg9 (fun j hj => Or.inl (by have := (hacc.lt j hj).1; omega)))
            have hfa := Lib.hid hacc9
            clear hg9 hacc9 hacc hall
            go_wp2_with fail
            go_meet
            exact ⟨hfa.out, hw9.out⟩
        case rest =>
          obtain ⟨hacc, hall⟩ := hcut
          obtain ⟨wf1, rfl⟩ : ∃ x : World, x = wc := ⟨_, rfl⟩
          have e5 := cell_at (i := 5) (HBX.out _ hall) rfl
          go_upto_if 28 with fail
          go_cut [8] (fun v wx => Acc RStr 1 9 (fun _ => False) wa.heap.size wx v (flagsQ needed secret) ∧ All wa wx)
          case first =>
            clear e5
            obtain ⟨av1, cv1, rfl, hcv1⟩ := hacc.form
            cases secret with
            | false =>
              have hfa := Lib.hid hacc
              have hfl := Lib.hid hall
              clear hacc hall
              go_wp2_with fail
              go_meet
              exact ⟨by rw [flagsQ_no]; exact hfa.out, hfl.out⟩
            | true =>
              have hwz := hall.size
              go_wp2_with (at_builtin; refine wp_append1 RStr.ok _ rfl _ _ 29 rfl wa.heap.size 9 (.string ⟨#[]⟩) 1 16 Tryz.underlying29 (by kernel_rfl) rfl (by decide) (fun _ => False) _ ((flagN needed)) rfl (hacc.keepAll RStr.ok (Kept.alloc _ _ _)) ⟨_, 0, none⟩ 1 [.string secrB] rfl rfl (World.news_of_block (cs := #[.string secrB]) (heap_at _ _ _ (by simp))) (by simp [Value.oneCell']) secrB ⟨rfl, by decide⟩ (by have := flagN_len needed; omega) (by decide) (by simp <;> omega) ?_)
              intro p' c' w9 hacc9 hg9 _
              have hw9 := Lib.hid ((hall.then_alloc _).grown hg9 (fun j hj => Or.inl (by have := (hacc.lt j hj).1; omega)))
              have hfa := Lib.hid hacc9
              clear hg9 hacc9 hacc hall
              go_wp2_with fail
              go_meet
              exact ⟨by rw [flagsQ_yes]; exact hfa.out, hw9.out⟩
          case rest =>
            obtain ⟨hacc, hall⟩ := hcut
            obtain ⟨wf2, rfl⟩ : ∃ x : World, x = wc := ⟨_, rfl⟩
            obtain ⟨av, cv, rfl, hcv⟩ := hacc.form
            have hfl := flagsQ_len needed secret
            obtain ⟨fl, hfle⟩ : ∃ z, z = flagsQ needed secret := ⟨_, rfl⟩
            rw [← hfle] at hacc hcv hfl W1 W2 W3 ⊢
            have HBX2 := Lib.hid (fun (wx : World) (k : All wf2 wx) => HBX.out wx (hall.trans k))
            have HACC := Lib.hid (fun (wx : World) (k : All wf2 wx) => hacc.keepAll RStr.ok k)
            have HALL := Lib.hid hall
            have hszf := hall.size
            have hk3 : kind = 1 ∨ kind = 2 ∨ kind = 3 := by omega
            clear hfle hacc hall hq1 hq2
            rcases hk3 with rfl | rfl | rfl
            · have hwse := Lib.hid (W1.out rfl)
              obtain ⟨iz, hiz⟩ : ∃ z, z = itoaB most := ⟨_, rfl⟩
              have hizs : iz.size ≤ 1000000 := by have := itoaB_size most hq7 hq8; rw [hiz]; omega
              have HIT := Lib.hid (fun (wx : World) (k : All wa wx) => (show Calls Tryz.prog 88 #[.int .i64 most] wx fun e w' => e = .returned (.string iz) ∧ All wx w' from by rw [hiz]; exact itoa_any _ (by omega) (by omega) wx ((HG.out.low (hk0.trans (kept_belowL (HWA.out.trans (LnK.all k (Nat.le_of_lt hltA))).low)) hwl).p)))
              rw [← hiz] at hwse
              clear hiz
              clear W1 W2 W3
              go_upto_region 13 with fail
              refine wp_region_inv 9 (by kernel_rfl) (by kernel_rfl) (by kernel_rfl) (fun _ wx => All wf2 wx)
                (DL [QIs (.slice av fl.length cv), QStrs [emptB, scorB, choiB, wordB], QIs (.pointer (some ⟨ab, 1, none⟩)), QIs (.int .i64 1), QPS [emptB, scorB, choiB, wordB] 1, QIs (.string scorB), QIs (.pointer (some ⟨ab, 0, none⟩)), QIs (.string key), QStrs [scorB, key]]) All
                (DL.keep (by simp only [List.forall_mem_cons, List.not_mem_nil, false_implies, implies_true, and_true]; exact ⟨QIs.stays _, QStrs.stays _, QIs.stays _, QIs.stays _, QPS.stays _ _, QIs.stays _, QIs.stays _, QIs.stays _, QStrs.stays _⟩)) (Kept.drew _ _) ?_ ?_
              · intro i o t ho hd hi k' a' wx hk' hg hdf hts hoth hdeps
                have hbx := HBX2.out _ hg
                have d0 := cell_at (i := 0) hbx rfl
                have d1 := cell_at (i := 1) hbx rfl
                clear hbx
                have hz : i = 0 ∨ i = 1 ∨ i = 2 ∨ i = 3 ∨ i = 4 ∨ i = 5 ∨ i = 6 ∨ i = 7 ∨ i = 8 := by omega
                rcases hz with rfl | rfl | rfl | rfl | rfl | rfl | rfl | rfl | rfl
                · obtain rfl := Option.some.inj ho
                  obtain rfl := Option.some.inj hd
                  have e0 : a'.tmps.getD 8 undef = .slice av fl.length cv := tmp_of ((hoth 8 (by decide)).trans rfl)
                  clear hoth hdeps hdf hts ho
                  refine wp_via (fun K' hK => ?_)
                  have HK := Lib.hid hK
                  clear hK
                  go_simp
                  exact HK.out _ _ ⟨_, rfl, hg, Kept.refl _ _, rfl⟩
                · obtain rfl := Option.some.inj ho
                  obtain rfl := Option.some.inj hd
                  clear hoth hdeps hdf hts ho
                  refine wp_via (fun K' hK => ?_)
                  have HK := Lib.hid hK
                  clear hK
                  go_simp
                  refine (kindWords_any wx).mono ?_
                  rintro e w2x ⟨⟨v9, rfl, hq9⟩, hk2x⟩
                  exact HK.out _ _ ⟨_, rfl, hg.trans hk2x, hk2x, hq9⟩
                · obtain rfl := Option.some.inj ho
                  obtain rfl := Option.some.inj hd
                  have e0 : a'.tmps.getD 7 undef = .pointer (some ⟨ab, 0, none⟩) := tmp_of ((hoth 7 (by decide)).trans rfl)
                  clear hoth hdeps hdf hts ho
                  refine wp_via (fun K' hK => ?_)
                  have HK := Lib.hid hK
                  clear hK
                  go_simp
                  exact HK.out _ _ ⟨_, rfl, hg, Kept.refl _ _, rfl⟩
                · obtain rfl := Option.some.inj ho
                  obtain rfl := Option.some.inj hd
                  have e0 : a'.tmps.getD 34 undef = .pointer (some ⟨ab, 1, none⟩) := hdeps 2 (by decide) 34 rfl
                  clear hoth hdeps hdf hts ho
                  refine wp_via (fun K' hK => ?_)
                  have HK := Lib.hid hK
                  clear hK
                  go_simp
                  exact HK.out _ _ ⟨_, rfl, hg, Kept.refl _ _, rfl⟩
                · obtain rfl := Option.some.inj ho
                  obtain rfl := Option.some.inj hd
                  obtain ⟨b9, e0, hbb⟩ : QStrs [emptB, scorB, choiB, wordB] (a'.tmps.getD 33 undef) wx := hdeps 1 (by decide) 33 rfl
                  replace e0 : a'.tmps.getD 33 undef = .slice (some ⟨b9, 0, none⟩) 4 4 := e0
                  have e1 : a'.tmps.getD 35 undef = .int .i64 1 := hdeps 3 (by decide) 35 rfl
                  clear hoth hdeps hdf hts ho
                  refine wp_via (fun K' hK => ?_)
                  have HK := Lib.hid hK
                  clear hK
                  go_simp
                  exact HK.out _ _ ⟨_, rfl, hg, Kept.refl _ _, ⟨b9, rfl, hbb⟩⟩
                · obtain rfl := Option.some.inj ho
                  obtain rfl := Option.some.inj hd
                  obtain ⟨b9, e0, hbb⟩ : QPS [emptB, scorB, choiB, wordB] 1 (a'.tmps.getD 36 undef) wx := hdeps 4 (by decide) 36 rfl
                  replace e0 : a'.tmps.getD 36 undef = .pointer (some ⟨b9, 1, none⟩) := e0
                  have c9 := cell_at (i := 1) hbb rfl
                  clear hoth hdeps hdf hts ho
                  refine wp_via (fun K' hK => ?_)
                  have HK := Lib.hid hK
                  clear hK
                  go_simp
                  exact HK.out _ _ ⟨_, rfl, hg, Kept.refl _ _, rfl⟩
                · obtain rfl := Option.some.inj ho
                  obtain rfl := Option.some.inj hd
                  have e0 : a'.tmps.getD 7 undef = .pointer (some ⟨ab, 0, none⟩) := tmp_of ((hoth 7 (by decide)).trans rfl)
                  clear hoth hdeps hdf hts ho
                  refine wp_via (fun K' hK => ?_)
                  have HK := Lib.hid hK
                  clear hK
                  go_simp
                  exact HK.out _ _ ⟨_, rfl, hg, Kept.refl _ _, rfl⟩
                · obtain rfl := Option.some.inj ho
                  obtain rfl := Option.some.inj hd
                  have e0 : a'.tmps.getD 38 undef = .pointer (some ⟨ab, 0, none⟩) := hdeps 6 (by decide) 38 rfl
                  clear hoth hdeps hdf hts ho
                  refine wp_via (fun K' hK => ?_)
                  have HK := Lib.hid hK
                  clear hK
                  go_simp
                  exact HK.out _ _ ⟨_, rfl, hg, Kept.refl _ _, rfl⟩
                · obtain rfl := Option.some.inj ho
                  obtain rfl := Option.some.inj hd
                  have e0 : a'.tmps.getD 37 undef = .string scorB := hdeps 5 (by decide) 37 rfl
                  have e0q : a'.tmps[37]?.getD undef = .string scorB := by rw [← Array.getD_eq_getD_getElem?]; exact e0
                  have e1 : a'.tmps.getD 39 undef = .string key := hdeps 7 (by decide) 39 rfl
                  have e1q : a'.tmps[39]?.getD undef = .string key := by rw [← Array.getD_eq_getD_getElem?]; exact e1
                  clear hoth hdeps hdf hts ho
                  refine wp_via (fun K' hK => ?_)
                  have HK := Lib.hid hK
                  clear hK
                  go_simp
                  exact HK.out _ _ ⟨_, rfl, hg.then_alloc _, Kept.alloc _ _ _, ⟨wx.heap.size, rfl, heap_at _ _ _ rfl⟩⟩
              · intro wx f hg hd
                have e32f : f 32 = .slice av fl.length cv := hd 0 32 (by decide) rfl
                obtain ⟨b9, e40f, hbb⟩ : QStrs [scorB, key] (f 40) wx := hd 8 40 (by decide) rfl
                replace e40f : f 40 = .slice (some ⟨b9, 0, none⟩) 2 2 := e40f
                rw [show dsts _ 9 = [32, 33, 34, 35, 36, 37, 38, 39, 40] from by kernel_rfl]
                simp only [List.map_cons, List.map_nil, puts, Act.put, e32f, e40f, List.drop_succ_cons, List.drop_zero]
                generalize f 33 = f33
                generalize f 34 = f34
                generalize f 35 = f35
                generalize f 36 = f36
                generalize f 37 = f37
                generalize f 38 = f38
                generalize f 39 = f39
                clear hd e32f e40f f
                simp only [List.setIfInBounds_toArray, List.set_cons_zero, List.set_cons_succ]
                have hacx := HACC.out _ hg
                have hsz1 := hg.size
                have hsl : Sl RStr 1 (fun _ => True) wx (some ⟨b9, 0, none⟩) 2 [scorB, key] := Sl.of_strs rfl trivial (fun i hi => by
                  have h2 : i = 0 ∨ i = 1 := by omega
                  rcases h2 with rfl | rfl
                  · exact cell_at hbb rfl
                  · exact cell_at hbb rfl) (fun s hs => by
                  have h2 : s = scorB ∨ s = key := by simpa using hs
                  rcases h2 with rfl | rfl
                  · decide
                  · exact HS.out.1)
                go_wp2_with (at_builtin; refine wp_appendS _ rfl _ _ 29 rfl wa.heap.size 9 16 Tryz.underlying29 (by kernel_rfl) _ fl rfl hacx (some ⟨b9, 0, none⟩) 2 2 [scorB, key] rfl hsl (by omega) (by decide) (by omega) ?_)
                intro p' c' w9 hacc9 hg9
                have hw9 : All wa w9 := (HALL.out.trans hg).grown hg9 (fun j hj => Or.inl (hacx.lt j hj).1)
                have hsz9 := hw9.size
                have hb9 := HBX.out _ hw9
                have d1 := cell_at (i := 1) hb9 rfl
                have d2 := cell_at (i := 2) hb9 rfl
                clear hg hacx hsl hbb hg9 hb9 hsz1
                go_wp2_with fail
                refine (HIT.out _ hw9).mono ?_
                rintro e wi ⟨rfl, hki⟩
                have hacci := hacc9.keepAll RStr.ok hki
                have hszi := hki.size
                go_wp2_with (at_builtin; refine wp_append1 RStr.ok _ rfl _ _ 29 rfl wa.heap.size 9 (.string ⟨#[]⟩) 1 16 Tryz.underlying29 (by kernel_rfl) rfl (by decide) (fun _ => False) _ (fl ++ [scorB, key]) rfl (hacci.keepAll RStr.ok (Kept.alloc _ _ _)) ⟨_, 0, none⟩ 1 [.string iz] rfl rfl (World.news_of_block (cs := #[.string iz]) (heap_at _ _ _ (by simp))) (by simp [Value.oneCell']) iz ⟨rfl, hizs⟩ (by simp; omega) (by decide) (by simp <;> omega) ?_)
                intro p2 c2 w10 hacc10 hg10 _
                obtain ⟨n1, hn1⟩ : ∃ z, z = fl.length + 2 + 1 := ⟨_, rfl⟩
                rw [← hn1] at hacc10 ⊢
                have hw10 : All wa w10 := ((hw9.trans hki).then_alloc _).grown hg10 (fun j hj => Or.inl (hacc9.lt j hj).1)
                have hnl : (fl ++ [scorB, key, iz]).length = n1 := by rw [hn1, List.length_append]; rfl
                clear d1 d2 hki hacci hszi
                rw [← hwse.out] at hacc10 hnl
                obtain ⟨g, c, hv, hgc, hgl, -, hcells⟩ := hacc10.strCells WN.out
                rw [hnl] at hv
                injection hv with hv1 hv2 hv3
                subst hv1 hv3
                have HAD := Lib.hid (addC_any lb lk g 0 n1 c2 ws w10 (HLK.out _ hw10) hcells hgl hnl (by omega) (by omega) (by omega))
                have HWX := Lib.hid (HWA.out.trans (LnK.all hw10 (Nat.le_of_lt hltA)))
                clear hacc9 hg10 hacc10 hw9 hw10 hv2 hgc hgl hcells hn1
                go_wp2_with fail
                refine HAD.out.mono ?_
                rintro e w11 ⟨rfl, hl11, hk11⟩
                have hfin := Lib.hid (show Lns w11 lb (sheetL (xs.take (k + 1))) from by rw [HT.out]; exact hl11)
                have hkf := Lib.hid (HWX.out.trans hk11)
                clear hl11 hk11
                go_wp2_with fail
                go_roundw
                case rel => exact ⟨k + 1, by omega, by go_num, hfin.out, hkf.out⟩
                case measure => simp [intOf]; omega
            · have hwse := Lib.hid (W2.out rfl)
              clear W1 W2 W3
              go_upto_region 13 with fail
              refine wp_region_inv 9 (by kernel_rfl) (by kernel_rfl) (by kernel_rfl) (fun _ wx => All wf2 wx)
                (DL [QIs (.slice av fl.length cv), QStrs [emptB, scorB, choiB, wordB], QIs (.pointer (some ⟨ab, 1, none⟩)), QIs (.int .i64 2), QPS [emptB, scorB, choiB, wordB] 2, QIs (.string choiB), QIs (.pointer (some ⟨ab, 0, none⟩)), QIs (.string key), QStrs [choiB, key]]) All
                (DL.keep (by simp only [List.forall_mem_cons, List.not_mem_nil, false_implies, implies_true, and_true]; exact ⟨QIs.stays _, QStrs.stays _, QIs.stays _, QIs.stays _, QPS.stays _ _, QIs.stays _, QIs.stays _, QIs.stays _, QStrs.stays _⟩)) (Kept.drew _ _) ?_ ?_
              · intro i o t ho hd hi k' a' wx hk' hg hdf hts hoth hdeps
                have hbx := HBX2.out _ hg
                have d0 := cell_at (i := 0) hbx rfl
                have d1 := cell_at (i := 1) hbx rfl
                clear hbx
                have hz : i = 0 ∨ i = 1 ∨ i = 2 ∨ i = 3 ∨ i = 4 ∨ i = 5 ∨ i = 6 ∨ i = 7 ∨ i = 8 := by omega
                rcases hz with rfl | rfl | rfl | rfl | rfl | rfl | rfl | rfl | rfl
                · obtain rfl := Option.some.inj ho
                  obtain rfl := Option.some.inj hd
                  have e0 : a'.tmps.getD 8 undef = .slice av fl.length cv := tmp_of ((hoth 8 (by decide)).trans rfl)
                  clear hoth hdeps hdf hts ho
                  refine wp_via (fun K' hK => ?_)
                  have HK := Lib.hid hK
                  clear hK
                  go_simp
                  exact HK.out _ _ ⟨_, rfl, hg, Kept.refl _ _, rfl⟩
                · obtain rfl := Option.some.inj ho
                  obtain rfl := Option.some.inj hd
                  clear hoth hdeps hdf hts ho
                  refine wp_via (fun K' hK => ?_)
                  have HK := Lib.hid hK
                  clear hK
                  go_simp
                  refine (kindWords_any wx).mono ?_
                  rintro e w2x ⟨⟨v9, rfl, hq9⟩, hk2x⟩
                  exact HK.out _ _ ⟨_, rfl, hg.trans hk2x, hk2x, hq9⟩
                · obtain rfl := Option.some.inj ho
                  obtain rfl := Option.some.inj hd
                  have e0 : a'.tmps.getD 7 undef = .pointer (some ⟨ab, 0, none⟩) := tmp_of ((hoth 7 (by decide)).trans rfl)
                  clear hoth hdeps hdf hts ho
                  refine wp_via (fun K' hK => ?_)
                  have HK := Lib.hid hK
                  clear hK
                  go_simp
                  exact HK.out _ _ ⟨_, rfl, hg, Kept.refl _ _, rfl⟩
                · obtain rfl := Option.some.inj ho
                  obtain rfl := Option.some.inj hd
                  have e0 : a'.tmps.getD 34 undef = .pointer (some ⟨ab, 1, none⟩) := hdeps 2 (by decide) 34 rfl
                  clear hoth hdeps hdf hts ho
                  refine wp_via (fun K' hK => ?_)
                  have HK := Lib.hid hK
                  clear hK
                  go_simp
                  exact HK.out _ _ ⟨_, rfl, hg, Kept.refl _ _, rfl⟩
                · obtain rfl := Option.some.inj ho
                  obtain rfl := Option.some.inj hd
                  obtain ⟨b9, e0, hbb⟩ : QStrs [emptB, scorB, choiB, wordB] (a'.tmps.getD 33 undef) wx := hdeps 1 (by decide) 33 rfl
                  replace e0 : a'.tmps.getD 33 undef = .slice (some ⟨b9, 0, none⟩) 4 4 := e0
                  have e1 : a'.tmps.getD 35 undef = .int .i64 2 := hdeps 3 (by decide) 35 rfl
                  clear hoth hdeps hdf hts ho
                  refine wp_via (fun K' hK => ?_)
                  have HK := Lib.hid hK
                  clear hK
                  go_simp
                  exact HK.out _ _ ⟨_, rfl, hg, Kept.refl _ _, ⟨b9, rfl, hbb⟩⟩
                · obtain rfl := Option.some.inj ho
                  obtain rfl := Option.some.inj hd
                  obtain ⟨b9, e0, hbb⟩ : QPS [emptB, scorB, choiB, wordB] 2 (a'.tmps.getD 36 undef) wx := hdeps 4 (by decide) 36 rfl
                  replace e0 : a'.tmps.getD 36 undef = .pointer (some ⟨b9, 2, none⟩) := e0
                  have c9 := cell_at (i := 2) hbb rfl
                  clear hoth hdeps hdf hts ho
                  refine wp_via (fun K' hK => ?_)
                  have HK := Lib.hid hK
                  clear hK
                  go_simp
                  exact HK.out _ _ ⟨_, rfl, hg, Kept.refl _ _, rfl⟩
                · obtain rfl := Option.some.inj ho
                  obtain rfl := Option.some.inj hd
                  have e0 : a'.tmps.getD 7 undef = .pointer (some ⟨ab, 0, none⟩) := tmp_of ((hoth 7 (by decide)).trans rfl)
                  clear hoth hdeps hdf hts ho
                  refine wp_via (fun K' hK => ?_)
                  have HK := Lib.hid hK
                  clear hK
                  go_simp
                  exact HK.out _ _ ⟨_, rfl, hg, Kept.refl _ _, rfl⟩
                · obtain rfl := Option.some.inj ho
                  obtain rfl := Option.some.inj hd
                  have e0 : a'.tmps.getD 38 undef = .pointer (some ⟨ab, 0, none⟩) := hdeps 6 (by decide) 38 rfl
                  clear hoth hdeps hdf hts ho
                  refine wp_via (fun K' hK => ?_)
                  have HK := Lib.hid hK
                  clear hK
                  go_simp
                  exact HK.out _ _ ⟨_, rfl, hg, Kept.refl _ _, rfl⟩
                · obtain rfl := Option.some.inj ho
                  obtain rfl := Option.some.inj hd
                  have e0 : a'.tmps.getD 37 undef = .string choiB := hdeps 5 (by decide) 37 rfl
                  have e0q : a'.tmps[37]?.getD undef = .string choiB := by rw [← Array.getD_eq_getD_getElem?]; exact e0
                  have e1 : a'.tmps.getD 39 undef = .string key := hdeps 7 (by decide) 39 rfl
                  have e1q : a'.tmps[39]?.getD undef = .string key := by rw [← Array.getD_eq_getD_getElem?]; exact e1
                  clear hoth hdeps hdf hts ho
                  refine wp_via (fun K' hK => ?_)
                  have HK := Lib.hid hK
                  clear hK
                  go_simp
                  exact HK.out _ _ ⟨_, rfl, hg.then_alloc _, Kept.alloc _ _ _, ⟨wx.heap.size, rfl, heap_at _ _ _ rfl⟩⟩
              · intro wx f hg hd
                have e32f : f 32 = .slice av fl.length cv := hd 0 32 (by decide) rfl
                obtain ⟨b9, e40f, hbb⟩ : QStrs [choiB, key] (f 40) wx := hd 8 40 (by decide) rfl
                replace e40f : f 40 = .slice (some ⟨b9, 0, none⟩) 2 2 := e40f
                rw [show dsts _ 9 = [32, 33, 34, 35, 36, 37, 38, 39, 40] from by kernel_rfl]
                simp only [List.map_cons, List.map_nil, puts, Act.put, e32f, e40f, List.drop_succ_cons, List.drop_zero]
                generalize f 33 = f33
                generalize f 34 = f34
                generalize f 35 = f35
                generalize f 36 = f36
                generalize f 37 = f37
                generalize f 38 = f38
                generalize f 39 = f39
                clear hd e32f e40f f
                simp only [List.setIfInBounds_toArray, List.set_cons_zero, List.set_cons_succ]
                have hacx := HACC.out _ hg
                have hsz1 := hg.size
                have hsl : Sl RStr 1 (fun _ => True) wx (some ⟨b9, 0, none⟩) 2 [choiB, key] := Sl.of_strs rfl trivial (fun i hi => by
                  have h2 : i = 0 ∨ i = 1 := by omega
                  rcases h2 with rfl | rfl
                  · exact cell_at hbb rfl
                  · exact cell_at hbb rfl) (fun s hs => by
                  have h2 : s = choiB ∨ s = key := by simpa using hs
                  rcases h2 with rfl | rfl
                  · decide
                  · exact HS.out.1)
                go_wp2_with (at_builtin; refine wp_appendS _ rfl _ _ 29 rfl wa.heap.size 9 16 Tryz.underlying29 (by kernel_rfl) _ fl rfl hacx (some ⟨b9, 0, none⟩) 2 2 [choiB, key] rfl hsl (by omega) (by decide) (by omega) ?_)
                intro p' c' w9 hacc9 hg9
                have hw9 : All wa w9 := (HALL.out.trans hg).grown hg9 (fun j hj => Or.inl (hacx.lt j hj).1)
                have hsz9 := hw9.size
                have hb9 := HBX.out _ hw9
                have d1 := cell_at (i := 1) hb9 rfl
                have d3 := cell_at (i := 3) hb9 rfl
                clear hg hacx hsl hbb hg9 hb9 hsz1
                have hop9 := HOP.out _ hw9
                go_wp2_with (at_builtin; refine wp_appendS _ rfl _ _ 29 rfl wa.heap.size 9 16 Tryz.underlying29 (by kernel_rfl) _ (fl ++ [choiB, key]) rfl hacc9 oa opts.length oc opts rfl hop9 (by simp; omega) (by decide) (by omega) ?_)
                intro p2 c2 w10 hacc10 hg10
                obtain ⟨n1, hn1⟩ : ∃ z, z = fl.length + 2 + opts.length := ⟨_, rfl⟩
                rw [← hn1] at hacc10 ⊢
                have hw10 : All wa w10 := hw9.grown hg10 (fun j hj => Or.inl (hacc9.lt j hj).1)
                have hnl : (fl ++ choiB :: key :: opts).length = n1 := by rw [hn1, List.length_append, List.length_cons, List.length_cons]; omega
                clear d1 d3 hop9
                rw [← hwse.out] at hacc10 hnl
                obtain ⟨g, c, hv, hgc, hgl, -, hcells⟩ := hacc10.strCells WN.out
                rw [hnl] at hv
                injection hv with hv1 hv2 hv3
                subst hv1 hv3
                have HAD := Lib.hid (addC_any lb lk g 0 n1 c2 ws w10 (HLK.out _ hw10) hcells hgl hnl (by omega) (by omega) (by omega))
                have HWX := Lib.hid (HWA.out.trans (LnK.all hw10 (Nat.le_of_lt hltA)))
                clear hacc9 hg10 hacc10 hw9 hw10 hv2 hgc hgl hcells hn1
                go_wp2_with fail
                refine HAD.out.mono ?_
                rintro e w11 ⟨rfl, hl11, hk11⟩
                have hfin := Lib.hid (show Lns w11 lb (sheetL (xs.take (k + 1))) from by rw [HT.out]; exact hl11)
                have hkf := Lib.hid (HWX.out.trans hk11)
                clear hl11 hk11
                go_wp2_with fail
                go_roundw
                case rel => exact ⟨k + 1, by omega, by go_num, hfin.out, hkf.out⟩
                case measure => simp [intOf]; omega
            · have hwse := Lib.hid (W3.out rfl)
              obtain ⟨iz, hiz⟩ : ∃ z, z = itoaB most := ⟨_, rfl⟩
              have hizs : iz.size ≤ 1000000 := by have := itoaB_size most hq7 hq8; rw [hiz]; omega
              have HIT := Lib.hid (fun (wx : World) (k : All wa wx) => (show Calls Tryz.prog 88 #[.int .i64 most] wx fun e w' => e = .returned (.string iz) ∧ All wx w' from by rw [hiz]; exact itoa_any _ (by omega) (by omega) wx ((HG.out.low (hk0.trans (kept_belowL (HWA.out.trans (LnK.all k (Nat.le_of_lt hltA))).low)) hwl).p)))
              rw [← hiz] at hwse
              clear hiz
              clear W1 W2 W3
              go_upto_region 13 with fail
              refine wp_region_inv 9 (by kernel_rfl) (by kernel_rfl) (by kernel_rfl) (fun _ wx => All wf2 wx)
                (DL [QIs (.slice av fl.length cv), QStrs [emptB, scorB, choiB, wordB], QIs (.pointer (some ⟨ab, 1, none⟩)), QIs (.int .i64 3), QPS [emptB, scorB, choiB, wordB] 3, QIs (.string wordB), QIs (.pointer (some ⟨ab, 0, none⟩)), QIs (.string key), QStrs [wordB, key]]) All
                (DL.keep (by simp only [List.forall_mem_cons, List.not_mem_nil, false_implies, implies_true, and_true]; exact ⟨QIs.stays _, QStrs.stays _, QIs.stays _, QIs.stays _, QPS.stays _ _, QIs.stays _, QIs.stays _, QIs.stays _, QStrs.stays _⟩)) (Kept.drew _ _) ?_ ?_
              · intro i o t ho hd hi k' a' wx hk' hg hdf hts hoth hdeps
                have hbx := HBX2.out _ hg
                have d0 := cell_at (i := 0) hbx rfl
                have d1 := cell_at (i := 1) hbx rfl
                clear hbx
                have hz : i = 0 ∨ i = 1 ∨ i = 2 ∨ i = 3 ∨ i = 4 ∨ i = 5 ∨ i = 6 ∨ i = 7 ∨ i = 8 := by omega
                rcases hz with rfl | rfl | rfl | rfl | rfl | rfl | rfl | rfl | rfl
                · obtain rfl := Option.some.inj ho
                  obtain rfl := Option.some.inj hd
                  have e0 : a'.tmps.getD 8 undef = .slice av fl.length cv := tmp_of ((hoth 8 (by decide)).trans rfl)
                  clear hoth hdeps hdf hts ho
                  refine wp_via (fun K' hK => ?_)
                  have HK := Lib.hid hK
                  clear hK
                  go_simp
                  exact HK.out _ _ ⟨_, rfl, hg, Kept.refl _ _, rfl⟩
                · obtain rfl := Option.some.inj ho
                  obtain rfl := Option.some.inj hd
                  clear hoth hdeps hdf hts ho
                  refine wp_via (fun K' hK => ?_)
                  have HK := Lib.hid hK
                  clear hK
                  go_simp
                  refine (kindWords_any wx).mono ?_
                  rintro e w2x ⟨⟨v9, rfl, hq9⟩, hk2x⟩
                  exact HK.out _ _ ⟨_, rfl, hg.trans hk2x, hk2x, hq9⟩
                · obtain rfl := Option.some.inj ho
                  obtain rfl := Option.some.inj hd
                  have e0 : a'.tmps.getD 7 undef = .pointer (some ⟨ab, 0, none⟩) := tmp_of ((hoth 7 (by decide)).trans rfl)
                  clear hoth hdeps hdf hts ho
                  refine wp_via (fun K' hK => ?_)
                  have HK := Lib.hid hK
                  clear hK
                  go_simp
                  exact HK.out _ _ ⟨_, rfl, hg, Kept.refl _ _, rfl⟩
                · obtain rfl := Option.some.inj ho
                  obtain rfl := Option.some.inj hd
                  have e0 : a'.tmps.getD 34 undef = .pointer (some ⟨ab, 1, none⟩) := hdeps 2 (by decide) 34 rfl
                  clear hoth hdeps hdf hts ho
                  refine wp_via (fun K' hK => ?_)
                  have HK := Lib.hid hK
                  clear hK
                  go_simp
                  exact HK.out _ _ ⟨_, rfl, hg, Kept.refl _ _, rfl⟩
                · obtain rfl := Option.some.inj ho
                  obtain rfl := Option.some.inj hd
                  obtain ⟨b9, e0, hbb⟩ : QStrs [emptB, scorB, choiB, wordB] (a'.tmps.getD 33 undef) wx := hdeps 1 (by decide) 33 rfl
                  replace e0 : a'.tmps.getD 33 undef = .slice (some ⟨b9, 0, none⟩) 4 4 := e0
                  have e1 : a'.tmps.getD 35 undef = .int .i64 3 := hdeps 3 (by decide) 35 rfl
                  clear hoth hdeps hdf hts ho
                  refine wp_via (fun K' hK => ?_)
                  have HK := Lib.hid hK
                  clear hK
                  go_simp
                  exact HK.out _ _ ⟨_, rfl, hg, Kept.refl _ _, ⟨b9, rfl, hbb⟩⟩
                · obtain rfl := Option.some.inj ho
                  obtain rfl := Option.some.inj hd
                  obtain ⟨b9, e0, hbb⟩ : QPS [emptB, scorB, choiB, wordB] 3 (a'.tmps.getD 36 undef) wx := hdeps 4 (by decide) 36 rfl
                  replace e0 : a'.tmps.getD 36 undef = .pointer (some ⟨b9, 3, none⟩) := e0
                  have c9 := cell_at (i := 3) hbb rfl
                  clear hoth hdeps hdf hts ho
                  refine wp_via (fun K' hK => ?_)
                  have HK := Lib.hid hK
                  clear hK
                  go_simp
                  exact HK.out _ _ ⟨_, rfl, hg, Kept.refl _ _, rfl⟩
                · obtain rfl := Option.some.inj ho
                  obtain rfl := Option.some.inj hd
                  have e0 : a'.tmps.getD 7 undef = .pointer (some ⟨ab, 0, none⟩) := tmp_of ((hoth 7 (by decide)).trans rfl)
                  clear hoth hdeps hdf hts ho
                  refine wp_via (fun K' hK => ?_)
                  have HK := Lib.hid hK
                  clear hK
                  go_simp
                  exact HK.out _ _ ⟨_, rfl, hg, Kept.refl _ _, rfl⟩
                · obtain rfl := Option.some.inj ho
                  obtain rfl := Option.some.inj hd
                  have e0 : a'.tmps.getD 38 undef = .pointer (some ⟨ab, 0, none⟩) := hdeps 6 (by decide) 38 rfl
                  clear hoth hdeps hdf hts ho
                  refine wp_via (fun K' hK => ?_)
                  have HK := Lib.hid hK
                  clear hK
                  go_simp
                  exact HK.out _ _ ⟨_, rfl, hg, Kept.refl _ _, rfl⟩
                · obtain rfl := Option.some.inj ho
                  obtain rfl := Option.some.inj hd
                  have e0 : a'.tmps.getD 37 undef = .string wordB := hdeps 5 (by decide) 37 rfl
                  have e0q : a'.tmps[37]?.getD undef = .string wordB := by rw [← Array.getD_eq_getD_getElem?]; exact e0
                  have e1 : a'.tmps.getD 39 undef = .string key := hdeps 7 (by decide) 39 rfl
                  have e1q : a'.tmps[39]?.getD undef = .string key := by rw [← Array.getD_eq_getD_getElem?]; exact e1
                  clear hoth hdeps hdf hts ho
                  refine wp_via (fun K' hK => ?_)
                  have HK := Lib.hid hK
                  clear hK
                  go_simp
                  exact HK.out _ _ ⟨_, rfl, hg.then_alloc _, Kept.alloc _ _ _, ⟨wx.heap.size, rfl, heap_at _ _ _ rfl⟩⟩
              · intro wx f hg hd
                have e32f : f 32 = .slice av fl.length cv := hd 0 32 (by decide) rfl
                obtain ⟨b9, e40f, hbb⟩ : QStrs [wordB, key] (f 40) wx := hd 8 40 (by decide) rfl
                replace e40f : f 40 = .slice (some ⟨b9, 0, none⟩) 2 2 := e40f
                rw [show dsts _ 9 = [32, 33, 34, 35, 36, 37, 38, 39, 40] from by kernel_rfl]
                simp only [List.map_cons, List.map_nil, puts, Act.put, e32f, e40f, List.drop_succ_cons, List.drop_zero]
                generalize f 33 = f33
                generalize f 34 = f34
                generalize f 35 = f35
                generalize f 36 = f36
                generalize f 37 = f37
                generalize f 38 = f38
                generalize f 39 = f39
                clear hd e32f e40f f
                simp only [List.setIfInBounds_toArray, List.set_cons_zero, List.set_cons_succ]
                have hacx := HACC.out _ hg
                have hsz1 := hg.size
                have hsl : Sl RStr 1 (fun _ => True) wx (some ⟨b9, 0, none⟩) 2 [wordB, key] := Sl.of_strs rfl trivial (fun i hi => by
                  have h2 : i = 0 ∨ i = 1 := by omega
                  rcases h2 with rfl | rfl
                  · exact cell_at hbb rfl
                  · exact cell_at hbb rfl) (fun s hs => by
                  have h2 : s = wordB ∨ s = key := by simpa using hs
                  rcases h2 with rfl | rfl
                  · decide
                  · exact HS.out.1)
                go_wp2_with (at_builtin; refine wp_appendS _ rfl _ _ 29 rfl wa.heap.size 9 16 Tryz.underlying29 (by kernel_rfl) _ fl rfl hacx (some ⟨b9, 0, none⟩) 2 2 [wordB, key] rfl hsl (by omega) (by decide) (by omega) ?_)
                intro p' c' w9 hacc9 hg9
                have hw9 : All wa w9 := (HALL.out.trans hg).grown hg9 (fun j hj => Or.inl (hacx.lt j hj).1)
                have hsz9 := hw9.size
                have hb9 := HBX.out _ hw9
                have d1 := cell_at (i := 1) hb9 rfl
                have d2 := cell_at (i := 2) hb9 rfl
                clear hg hacx hsl hbb hg9 hb9 hsz1
                go_wp2_with fail
                refine (HIT.out _ hw9).mono ?_
                rintro e wi ⟨rfl, hki⟩
                have hacci := hacc9.keepAll RStr.ok hki
                have hszi := hki.size
                go_wp2_with (at_builtin; refine wp_append1 RStr.ok _ rfl _ _ 29 rfl wa.heap.size 9 (.string ⟨#[]⟩) 1 16 Tryz.underlying29 (by kernel_rfl) rfl (by decide) (fun _ => False) _ (fl ++ [wordB, key]) rfl (hacci.keepAll RStr.ok (Kept.alloc _ _ _)) ⟨_, 0, none⟩ 1 [.string iz] rfl rfl (World.news_of_block (cs := #[.string iz]) (heap_at _ _ _ (by simp))) (by simp [Value.oneCell']) iz ⟨rfl, hizs⟩ (by simp; omega) (by decide) (by simp <;> omega) ?_)
                intro p2 c2 w10 hacc10 hg10 _
                obtain ⟨n1, hn1⟩ : ∃ z, z = fl.length + 2 + 1 := ⟨_, rfl⟩
                rw [← hn1] at hacc10 ⊢
                have hw10 : All wa w10 := ((hw9.trans hki).then_alloc _).grown hg10 (fun j hj => Or.inl (hacc9.lt j hj).1)
                have hnl : (fl ++ [wordB, key, iz]).length = n1 := by rw [hn1, List.length_append]; rfl
                clear d1 d2 hki hacci hszi
                rw [← hwse.out] at hacc10 hnl
                obtain ⟨g, c, hv, hgc, hgl, -, hcells⟩ := hacc10.strCells WN.out
                rw [hnl] at hv
                injection hv with hv1 hv2 hv3
                subst hv1 hv3
                have HAD := Lib.hid (addC_any lb lk g 0 n1 c2 ws w10 (HLK.out _ hw10) hcells hgl hnl (by omega) (by omega) (by omega))
                have HWX := Lib.hid (HWA.out.trans (LnK.all hw10 (Nat.le_of_lt hltA)))
                clear hacc9 hg10 hacc10 hw9 hw10 hv2 hgc hgl hcells hn1
                go_wp2_with fail
                refine HAD.out.mono ?_
                rintro e w11 ⟨rfl, hl11, hk11⟩
                have hfin := Lib.hid (show Lns w11 lb (sheetL (xs.take (k + 1))) from by rw [HT.out]; exact hl11)
                have hkf := Lib.hid (HWX.out.trans hk11)
                clear hl11 hk11
                go_wp2_with fail
                go_roundw
                case rel => exact ⟨k + 1, by omega, by go_num, hfin.out, hkf.out⟩
                case measure => simp [intOf]; omega
      · have hd8 : decide ((k : Int) < (len : Int)) = false := by simp; omega
        have e1 : xs.take k = xs := List.take_of_length_le (by omega)
        rw [e1, ← HTX.out] at hlk
        have HLT := Lib.hid (linesText_any lb tx wo hlk (by omega))
        clear e1 hlk
        go_wp2_with fail
        refine HLT.out.mono ?_
        rintro e w3 ⟨rfl, hk3⟩
        have hfin := Lib.hid (show All w w3 from Kept.of_below ((hk0.trans (kept_belowL (hwr.trans hk3).low)).below (Nat.le_refl _) (fun k hk => by omega)))
        clear hwr hk3
        go_wp2_with fail
        go_ret2
        exact ⟨rfl, hfin.out⟩
  · rw [if_neg h0]
    obtain ⟨z, hz⟩ : ∃ z, z = sheetF xs := ⟨_, rfl⟩
    rw [← hz] at HC h0 ⊢
    have hz1 : (z == 0) = false := by simpa using h0
    clear hs hg hz HY HG
    go_enter Tryz.func43, Tryz.ntmps43
    go_wp2_with fail
    refine HC.out.mono ?_
    rintro e w1 ⟨rfl, hw1⟩
    go_wp2_with fail
    go_ret2
    exact ⟨rfl, hw1⟩
end Go.Proofs.YtjbaijgdkkccbaaGreatDoor

/- SheetLines. -/
namespace Go.Proofs.YtjbaijgdkkccbaaGreatDoor
open Go.RowKit

theorem word1_eq (fl : List ByteArray) (a k i : ByteArray) (o : List ByteArray) (h : o = []) : fl ++ [a, k, i] = fl ++ a :: k :: i :: o := by rw [h]
theorem lineW_cat (ws : List ByteArray) (l : List UInt8) : (⟨(l ++ lineW ws).toArray⟩ : ByteArray) = catR ⟨l.toArray⟩ (catR ⟨(Lib.join (ws.map (·.data.toList)) [32]).toArray⟩ ⟨#[10]⟩) := by
  apply Go.WideShapes.bytes_inj
  rw [cat_data, cat_data]
  simp [lineW]

set_option maxRecDepth 100000 in
set_option maxHeartbeats 12800000 in
theorem sheetLines_any (a : Option Addr) (len cap : Nat) (xs : List Qst) (w : World) (hs : Sl RQst 6 (fun _ => True) w a len xs) (hfit : ∀ q ∈ xs, QFit q) (hl : len ≤ 1000) (hp : Pow w) :
    Calls Tryz.prog 45 #[.slice a len cap] w fun e w' => e = .returned (.string ⟨(sheetL xs).toArray⟩) ∧ All w w' := by
  have HY := Lib.hid (fun (wx : World) (k : All w wx) => hs.keep RQst.ok k)
  have HP := Lib.hid hp
  have hlen := hs.len
  have hZ := sheetL_le xs hfit
  have HF := Lib.hid hfit
  clear hs hp hfit
  go_enter Tryz.func45, Tryz.ntmps45
  go_wp2_with fail
  go_loopw [3, 9] (fun o i wr => ∃ k : Nat, k ≤ len ∧ i = .int .i64 k ∧ o = .string ⟨(sheetL (xs.take k)).toArray⟩ ∧ All w wr) (fun _ i _ => len - (intOf i).toNat)
  case atStart => exact ⟨0, Nat.zero_le _, rfl, rfl, Kept.refl _ _⟩
  case round =>
    obtain ⟨k, hkn, rfl, rfl, hwr⟩ := hrel
    obtain ⟨wo, rfl⟩ : ∃ wo : World, wo = wr := ⟨_, rfl⟩
    by_cases hlt : k < len
    · obtain ⟨b, off, x, oa, oc, rfl, -, c0, c1, c2, c3, c4, c5, hcp, hsm, hop, hxk, htk⟩ := (HY.out wo hwr).atQst hlt
      have HT := Lib.hid (sheetL_succ htk)
      have hq := HF.out x (List.mem_of_getElem? hxk)
      have hz1 := lineQ_len hq
      have hz2 := sheetL_take xs k
      have hwq := wordsQ_len hq
      obtain ⟨hq1, hq2, hq3, hq4, hq5, hq6, hq7, hq8⟩ := hq
      have W1 := Lib.hid (words_1 x)
      have W2 := Lib.hid (words_2 x)
      have W3 := Lib.hid (words_3 x)
      obtain ⟨ws, hws⟩ : ∃ z, z = wordsQ x := ⟨_, rfl⟩
      rw [← hws] at HT hz1 hwq W1 W2 W3
      obtain ⟨lk, hlke⟩ : ∃ z, z = sheetL (xs.take k) := ⟨_, rfl⟩
      rw [← hlke] at hz2 HT ⊢
      obtain ⟨ok, hok⟩ : ∃ z : ByteArray, z = ⟨lk.toArray⟩ := ⟨_, rfl⟩
      have HOK := Lib.hid hok
      have hoks : ok.size = lk.length := by rw [hok]; rfl
      rw [← hok]
      obtain ⟨key, kind, most, opts, needed, secret⟩ := x
      dsimp only at c0 c1 c2 c3 c4 c5 hcp hsm hop hq1 hq2 hq3 hq4 hq5 hq6 hq7 hq8 W1 W2 W3
      have hka : All wo (wo.alloc (.cells #[.string key, .int .i64 kind, .int .i64 most, .slice oa opts.length oc, .bool needed, .bool secret] 146)) := Kept.alloc _ _ _
      have hab := heap_at wo (.cells #[.string key, .int .i64 kind, .int .i64 most, .slice oa opts.length oc, .bool needed, .bool secret] 146) _ rfl
      obtain ⟨ab, habe⟩ : ∃ q, q = wo.heap.size := ⟨_, rfl⟩
      have HAB := Lib.hid habe
      rw [← habe] at hab
      have hwa := hwr.trans hka
      have hop2 := hop.keep RStr.ok hka
      have hops := hop.len
      have HS := Lib.hid hsm
      have HN := Lib.hid hq6
      clear hwr habe hlke hop hka hws hxk htk hq5 hsm hok hq6
      go_upto_region 5 with fail
      simp only [← HAB.out]
      clear c0 c1 c2 c3 c4 c5
      generalize wo.alloc (.cells #[.string key, .int .i64 kind, .int .i64 most, .slice oa opts.length oc, .bool needed, .bool secret] 146) = wa at *
      have e4 := cell_at (i := 4) hab rfl
      have HBX := Lib.hid (fun (wx : World) (k : All wa wx) => k.heap hab trivial)
      have HOP := Lib.hid (fun (wx : World) (k : All wa wx) => hop2.keep RStr.ok k)
      have HWA := Lib.hid hwa
      clear hab hop2 hwa
      go_upto_if 14 with fail
      go_cut [6] (fun v wx => Acc RStr 1 9 (fun _ => False) wa.heap.size wx v (flagN needed) ∧ All wa wx)
      case first =>
        have hacc := Acc.nil RStr 1 9 (fun _ => False) wa.heap.size wa
        have hall : All wa wa := Kept.refl _ _
        cases needed with
        | false =>
          have hfa := Lib.hid hacc
          have hfl := Lib.hid hall
          clear hacc hall
          go_wp2_with fail
          go_meet
          exact ⟨hfa.out, hfl.out⟩
        | true =>
          have hwz := hall.size
          go_wp2_with (at_builtin; refine wp_append1 RStr.ok _ rfl _ _ 29 rfl wa.heap.size 9 (.string ⟨#[]⟩) 1 16 Tryz.underlying29 (by kernel_rfl) rfl (by decide) (fun _ => False) _ ([]) rfl (hacc.keepAll RStr.ok (Kept.alloc _ _ _)) ⟨_, 0, none⟩ 1 [.string needB] rfl rfl (World.news_of_block (cs := #[.string needB]) (heap_at _ _ _ (by simp))) (by simp [Value.oneCell']) needB ⟨rfl, by decide⟩ (by decide) (by decide) (by simp <;> omega) ?_)
          intro p' c' w9 hacc9 hg9 _
          have hw9 := Lib.hid ((hall.then_alloc _).grown hg9 (fun j hj => Or.inl (by have := (hacc.lt j hj).1; omega)))
          have hfa := Lib.hid hacc9
          clear hg9 hacc9 hacc hall
          go_wp2_with fail
          go_meet
          exact ⟨hfa.out, hw9.out⟩
      case rest =>
        obtain ⟨hacc, hall⟩ := hcut
        obtain ⟨wf1, rfl⟩ : ∃ x : World, x = wc := ⟨_, rfl⟩
        have e5 := cell_at (i := 5) (HBX.out _ hall) rfl
        go_upto_if 19 with fail
        go_cut [6] (fun v wx => Acc RStr 1 9 (fun _ => False) wa.heap.size wx v (flagsQ needed secret) ∧ All wa wx)
        case first =>
          clear e5
          obtain ⟨av1, cv1, rfl, hcv1⟩ := hacc.form
          cases secret with
          | false =>
            have hfa := Lib.hid hacc
            have hfl := Lib.hid hall
            clear hacc hall
            go_wp2_with fail
            go_meet
            exact ⟨by rw [flagsQ_no]; exact hfa.out, hfl.out⟩
          | true =>
            have hwz := hall.size
            go_wp2_with (at_builtin; refine wp_append1 RStr.ok _ rfl _ _ 29 rfl wa.heap.size 9 (.string ⟨#[]⟩) 1 16 Tryz.underlying29 (by kernel_rfl) rfl (by decide) (fun _ => False) _ ((flagN needed)) rfl (hacc.keepAll RStr.ok (Kept.alloc _ _ _)) ⟨_, 0, none⟩ 1 [.string secrB] rfl rfl (World.news_of_block (cs := #[.string secrB]) (heap_at _ _ _ (by simp))) (by simp [Value.oneCell']) secrB ⟨rfl, by decide⟩ (by have := flagN_len needed; omega) (by decide) (by simp <;> omega) ?_)
            intro p' c' w9 hacc9 hg9 _
            have hw9 := Lib.hid ((hall.then_alloc _).grown hg9 (fun j hj => Or.inl (by have := (hacc.lt j hj).1; omega)))
            have hfa := Lib.hid hacc9
            clear hg9 hacc9 hacc hall
            go_wp2_with fail
            go_meet
            exact ⟨by rw [flagsQ_yes]; exact hfa.out, hw9.out⟩
        case rest =>
          obtain ⟨hacc, hall⟩ := hcut
          obtain ⟨wf2, rfl⟩ : ∃ x : World, x = wc := ⟨_, rfl⟩
          obtain ⟨av, cv, rfl, hcv⟩ := hacc.form
          have hfl := flagsQ_len needed secret
          obtain ⟨fl, hfle⟩ : ∃ z, z = flagsQ needed secret := ⟨_, rfl⟩
          rw [← hfle] at hacc hcv hfl W1 W2 W3 ⊢
          have HBX2 := Lib.hid (fun (wx : World) (k : All wf2 wx) => HBX.out wx (hall.trans k))
          have HACC := Lib.hid (fun (wx : World) (k : All wf2 wx) => hacc.keepAll RStr.ok k)
          have HALL := Lib.hid hall
          have hszf := hall.size
          have hk3 : kind = 1 ∨ kind = 2 ∨ kind = 3 := by omega
          clear hfle hacc hall hq1 hq2
          rcases hk3 with rfl | rfl | rfl
          · have hwse := Lib.hid (W1.out rfl)
            have HO := Lib.hid (HN.out (by decide))
            obtain ⟨iz, hiz⟩ : ∃ z, z = itoaB most := ⟨_, rfl⟩
            have hizs : iz.size ≤ 1000000 := by have := itoaB_size most hq7 hq8; rw [hiz]; omega
            have HIT := Lib.hid (fun (wx : World) (k : All wa wx) => (show Calls Tryz.prog 88 #[.int .i64 most] wx fun e w' => e = .returned (.string iz) ∧ All wx w' from by rw [hiz]; exact itoa_any _ (by omega) (by omega) wx (HP.out.keep (HWA.out.trans k))))
            rw [← hiz] at hwse
            clear hiz
            clear W1 W2 W3 HN
            go_upto_region 10 with fail
            refine wp_region_inv 9 (by kernel_rfl) (by kernel_rfl) (by kernel_rfl) (fun _ wx => All wf2 wx)
              (DL [QIs (.slice av fl.length cv), QStrs [emptB, scorB, choiB, wordB], QIs (.pointer (some ⟨ab, 1, none⟩)), QIs (.int .i64 1), QPS [emptB, scorB, choiB, wordB] 1, QIs (.string scorB), QIs (.pointer (some ⟨ab, 0, none⟩)), QIs (.string key), QStrs [scorB, key]]) All
              (DL.keep (by simp only [List.forall_mem_cons, List.not_mem_nil, false_implies, implies_true, and_true]; exact ⟨QIs.stays _, QStrs.stays _, QIs.stays _, QIs.stays _, QPS.stays _ _, QIs.stays _, QIs.stays _, QIs.stays _, QStrs.stays _⟩)) (Kept.drew _ _) ?_ ?_
            · intro i o t ho hd hi k' a' wx hk' hg hdf hts hoth hdeps
              have hbx := HBX2.out _ hg
              have d0 := cell_at (i := 0) hbx rfl
              have d1 := cell_at (i := 1) hbx rfl
              clear hbx
              have hz : i = 0 ∨ i = 1 ∨ i = 2 ∨ i = 3 ∨ i = 4 ∨ i = 5 ∨ i = 6 ∨ i = 7 ∨ i = 8 := by omega
              rcases hz with rfl | rfl | rfl | rfl | rfl | rfl | rfl | rfl | rfl
              · obtain rfl := Option.some.inj ho
                obtain rfl := Option.some.inj hd
                have e0 : a'.tmps.getD 6 undef = .slice av fl.length cv := tmp_of ((hoth 6 (by decide)).trans rfl)
                clear hoth hdeps hdf hts ho
                refine wp_via (fun K' hK => ?_)
                have HK := Lib.hid hK
                clear hK
                go_simp
                exact HK.out _ _ ⟨_, rfl, hg, Kept.refl _ _, rfl⟩
              · obtain rfl := Option.some.inj ho
                obtain rfl := Option.some.inj hd
                clear hoth hdeps hdf hts ho
                refine wp_via (fun K' hK => ?_)
                have HK := Lib.hid hK
                clear hK
                go_simp
                exact HK.out _ _ ⟨_, rfl, hg.then_alloc _, Kept.alloc _ _ _, ⟨wx.heap.size, rfl, heap_at _ _ _ rfl⟩⟩
              · obtain rfl := Option.some.inj ho
                obtain rfl := Option.some.inj hd
                have e0 : a'.tmps.getD 5 undef = .pointer (some ⟨ab, 0, none⟩) := tmp_of ((hoth 5 (by decide)).trans rfl)
                clear hoth hdeps hdf hts ho
                refine wp_via (fun K' hK => ?_)
                have HK := Lib.hid hK
                clear hK
                go_simp
                exact HK.out _ _ ⟨_, rfl, hg, Kept.refl _ _, rfl⟩
              · obtain rfl := Option.some.inj ho
                obtain rfl := Option.some.inj hd
                have e0 : a'.tmps.getD 25 undef = .pointer (some ⟨ab, 1, none⟩) := hdeps 2 (by decide) 25 rfl
                clear hoth hdeps hdf hts ho
                refine wp_via (fun K' hK => ?_)
                have HK := Lib.hid hK
                clear hK
                go_simp
                exact HK.out _ _ ⟨_, rfl, hg, Kept.refl _ _, rfl⟩
              · obtain rfl := Option.some.inj ho
                obtain rfl := Option.some.inj hd
                obtain ⟨b9, e0, hbb⟩ : QStrs [emptB, scorB, choiB, wordB] (a'.tmps.getD 24 undef) wx := hdeps 1 (by decide) 24 rfl
                replace e0 : a'.tmps.getD 24 undef = .slice (some ⟨b9, 0, none⟩) 4 4 := e0
                have e1 : a'.tmps.getD 26 undef = .int .i64 1 := hdeps 3 (by decide) 26 rfl
                clear hoth hdeps hdf hts ho
                refine wp_via (fun K' hK => ?_)
                have HK := Lib.hid hK
                clear hK
                go_simp
                exact HK.out _ _ ⟨_, rfl, hg, Kept.refl _ _, ⟨b9, rfl, hbb⟩⟩
              · obtain rfl := Option.some.inj ho
                obtain rfl := Option.some.inj hd
                obtain ⟨b9, e0, hbb⟩ : QPS [emptB, scorB, choiB, wordB] 1 (a'.tmps.getD 27 undef) wx := hdeps 4 (by decide) 27 rfl
                replace e0 : a'.tmps.getD 27 undef = .pointer (some ⟨b9, 1, none⟩) := e0
                have c9 := cell_at (i := 1) hbb rfl
                clear hoth hdeps hdf hts ho
                refine wp_via (fun K' hK => ?_)
                have HK := Lib.hid hK
                clear hK
                go_simp
                exact HK.out _ _ ⟨_, rfl, hg, Kept.refl _ _, rfl⟩
              · obtain rfl := Option.some.inj ho
                obtain rfl := Option.some.inj hd
                have e0 : a'.tmps.getD 5 undef = .pointer (some ⟨ab, 0, none⟩) := tmp_of ((hoth 5 (by decide)).trans rfl)
                clear hoth hdeps hdf hts ho
                refine wp_via (fun K' hK => ?_)
                have HK := Lib.hid hK
                clear hK
                go_simp
                exact HK.out _ _ ⟨_, rfl, hg, Kept.refl _ _, rfl⟩
              · obtain rfl := Option.some.inj ho
                obtain rfl := Option.some.inj hd
                have e0 : a'.tmps.getD 29 undef = .pointer (some ⟨ab, 0, none⟩) := hdeps 6 (by decide) 29 rfl
                clear hoth hdeps hdf hts ho
                refine wp_via (fun K' hK => ?_)
                have HK := Lib.hid hK
                clear hK
                go_simp
                exact HK.out _ _ ⟨_, rfl, hg, Kept.refl _ _, rfl⟩
              · obtain rfl := Option.some.inj ho
                obtain rfl := Option.some.inj hd
                have e0 : a'.tmps.getD 28 undef = .string scorB := hdeps 5 (by decide) 28 rfl
                have e0q : a'.tmps[28]?.getD undef = .string scorB := by rw [← Array.getD_eq_getD_getElem?]; exact e0
                have e1 : a'.tmps.getD 30 undef = .string key := hdeps 7 (by decide) 30 rfl
                have e1q : a'.tmps[30]?.getD undef = .string key := by rw [← Array.getD_eq_getD_getElem?]; exact e1
                clear hoth hdeps hdf hts ho
                refine wp_via (fun K' hK => ?_)
                have HK := Lib.hid hK
                clear hK
                go_simp
                exact HK.out _ _ ⟨_, rfl, hg.then_alloc _, Kept.alloc _ _ _, ⟨wx.heap.size, rfl, heap_at _ _ _ rfl⟩⟩
            · intro wx f hg hd
              have e23f : f 23 = .slice av fl.length cv := hd 0 23 (by decide) rfl
              obtain ⟨b9, e31f, hbb⟩ : QStrs [scorB, key] (f 31) wx := hd 8 31 (by decide) rfl
              replace e31f : f 31 = .slice (some ⟨b9, 0, none⟩) 2 2 := e31f
              rw [show dsts _ 9 = [23, 24, 25, 26, 27, 28, 29, 30, 31] from by kernel_rfl]
              simp only [List.map_cons, List.map_nil, puts, Act.put, e23f, e31f, List.drop_succ_cons, List.drop_zero]
              generalize f 24 = f24
              generalize f 25 = f25
              generalize f 26 = f26
              generalize f 27 = f27
              generalize f 28 = f28
              generalize f 29 = f29
              generalize f 30 = f30
              clear hd e23f e31f f
              simp only [List.setIfInBounds_toArray, List.set_cons_zero, List.set_cons_succ]
              have hacx := HACC.out _ hg
              have hsz1 := hg.size
              have hsl : Sl RStr 1 (fun _ => True) wx (some ⟨b9, 0, none⟩) 2 [scorB, key] := Sl.of_strs rfl trivial (fun i hi => by
                have h2 : i = 0 ∨ i = 1 := by omega
                rcases h2 with rfl | rfl
                · exact cell_at hbb rfl
                · exact cell_at hbb rfl) (fun s hs => by
                have h2 : s = scorB ∨ s = key := by simpa using hs
                rcases h2 with rfl | rfl
                · decide
                · exact HS.out.1)
              go_wp2_with (at_builtin; refine wp_appendS _ rfl _ _ 29 rfl wa.heap.size 9 16 Tryz.underlying29 (by kernel_rfl) _ fl rfl hacx (some ⟨b9, 0, none⟩) 2 2 [scorB, key] rfl hsl (by omega) (by decide) (by omega) ?_)
              intro p' c' w9 hacc9 hg9
              have hw9 : All wa w9 := (HALL.out.trans hg).grown hg9 (fun j hj => Or.inl (hacx.lt j hj).1)
              have hsz9 := hw9.size
              have hb9 := HBX.out _ hw9
              have d1 := cell_at (i := 1) hb9 rfl
              have d2 := cell_at (i := 2) hb9 rfl
              clear hg hacx hsl hbb hg9 hb9 hsz1
              go_wp2_with fail
              refine (HIT.out _ hw9).mono ?_
              rintro e wi ⟨rfl, hki⟩
              have hacci := hacc9.keepAll RStr.ok hki
              have hszi := hki.size
              go_wp2_with (at_builtin; refine wp_append1 RStr.ok _ rfl _ _ 29 rfl wa.heap.size 9 (.string ⟨#[]⟩) 1 16 Tryz.underlying29 (by kernel_rfl) rfl (by decide) (fun _ => False) _ (fl ++ [scorB, key]) rfl (hacci.keepAll RStr.ok (Kept.alloc _ _ _)) ⟨_, 0, none⟩ 1 [.string iz] rfl rfl (World.news_of_block (cs := #[.string iz]) (heap_at _ _ _ (by simp))) (by simp [Value.oneCell']) iz ⟨rfl, hizs⟩ (by simp; omega) (by decide) (by simp <;> omega) ?_)
              intro p3 c3 w9b hacc9b hg9b _
              have hw9b : All wa w9b := ((hw9.trans hki).then_alloc _).grown hg9b (fun j hj => Or.inl (hacc9.lt j hj).1)
              have hsz9b := hw9b.size
              have hop9 := HOP.out _ hw9b
              have d3 := cell_at (i := 3) (HBX.out _ hw9b) rfl
              clear d1 d2 hki hacci hszi hw9 hg9b
              go_wp2_with (at_builtin; refine wp_appendS _ rfl _ _ 29 rfl wa.heap.size 9 16 Tryz.underlying29 (by kernel_rfl) _ (fl ++ [scorB, key, iz]) rfl hacc9b oa opts.length oc opts rfl hop9 (by simp; omega) (by decide) (by omega) ?_)
              intro p2 c2 w10 hacc10 hg10
              obtain ⟨n1, hn1⟩ : ∃ z, z = fl.length + 2 + 1 + opts.length := ⟨_, rfl⟩
              rw [← hn1] at hacc10 ⊢
              have hw10 : All wa w10 := hw9b.grown hg10 (fun j hj => Or.inl (hacc9b.lt j hj).1)
              have hwsl : ws = fl ++ scorB :: key :: iz :: opts := hwse.out.trans (word1_eq fl scorB key iz opts HO.out)
              rw [← hwsl] at hacc10
              have hnl : ws.length = n1 := by rw [hwsl, hn1, List.length_append]; simp only [List.length_cons]; omega
              have hwne : ws ≠ [] := by rw [hwsl]; simp
              obtain ⟨g, c, hv, hgc, hgl, -, hcells⟩ := hacc10.strCells hwne
              rw [hnl] at hv
              injection hv with hv1 hv2 hv3
              subst hv1 hv3
              obtain ⟨jw, hjw⟩ : ∃ z : ByteArray, z = ⟨(Lib.join (ws.map (·.data.toList)) [32]).toArray⟩ := ⟨_, rfl⟩
              have hJ := joinC_any g 0 n1 c2 ws w10 hcells hgl hnl (by omega) (by omega) (by omega)
              rw [← hjw] at hJ
              have HJ := Lib.hid hJ
              have hjs : jw.size + 1 = (lineW ws).length := by rw [hjw]; simp [lineW, size_list]
              obtain ⟨bq, hbq, hbs, hrun⟩ := cat_runR Tryz.prog jw ⟨#[10]⟩ (by have : (⟨#[10]⟩ : ByteArray).size = 1 := rfl; omega)
              obtain ⟨bz, hbz, hbzs, hrun2⟩ := cat_runR Tryz.prog ok bq (by rw [hbq]; have : (catR jw ⟨#[10]⟩).size = jw.size + 1 := ByteArray.size_append; omega)
              have HEQ := Lib.hid (show (⟨(sheetL (xs.take (k + 1))).toArray⟩ : ByteArray) = bz from by rw [HT.out, lineW_cat, hbz, hbq, HOK.out, hjw])
              have HW10 := Lib.hid (HWA.out.trans hw10)
              clear hacc9b hg10 hacc10 hw10 hv2 hgc hgl hcells hn1 hbq hbz hjw hJ hnl hwsl hacc9
              go_wp2_with fail
              refine HJ.out.mono ?_
              rintro e w11 ⟨rfl, hk11⟩
              have hkf := Lib.hid (HW10.out.trans hk11)
              clear hk11
              go_wp2_with fail
              go_roundw
              case rel => exact ⟨k + 1, by omega, by go_num, by rw [HEQ.out], hkf.out⟩
              case measure => simp [intOf]; omega
          · have hwse := Lib.hid (W2.out rfl)
            clear W1 W2 W3 HN
            go_upto_region 10 with fail
            refine wp_region_inv 9 (by kernel_rfl) (by kernel_rfl) (by kernel_rfl) (fun _ wx => All wf2 wx)
              (DL [QIs (.slice av fl.length cv), QStrs [emptB, scorB, choiB, wordB], QIs (.pointer (some ⟨ab, 1, none⟩)), QIs (.int .i64 2), QPS [emptB, scorB, choiB, wordB] 2, QIs (.string choiB), QIs (.pointer (some ⟨ab, 0, none⟩)), QIs (.string key), QStrs [choiB, key]]) All
              (DL.keep (by simp only [List.forall_mem_cons, List.not_mem_nil, false_implies, implies_true, and_true]; exact ⟨QIs.stays _, QStrs.stays _, QIs.stays _, QIs.stays _, QPS.stays _ _, QIs.stays _, QIs.stays _, QIs.stays _, QStrs.stays _⟩)) (Kept.drew _ _) ?_ ?_
            · intro i o t ho hd hi k' a' wx hk' hg hdf hts hoth hdeps
              have hbx := HBX2.out _ hg
              have d0 := cell_at (i := 0) hbx rfl
              have d1 := cell_at (i := 1) hbx rfl
              clear hbx
              have hz : i = 0 ∨ i = 1 ∨ i = 2 ∨ i = 3 ∨ i = 4 ∨ i = 5 ∨ i = 6 ∨ i = 7 ∨ i = 8 := by omega
              rcases hz with rfl | rfl | rfl | rfl | rfl | rfl | rfl | rfl | rfl
              · obtain rfl := Option.some.inj ho
                obtain rfl := Option.some.inj hd
                have e0 : a'.tmps.getD 6 undef = .slice av fl.length cv := tmp_of ((hoth 6 (by decide)).trans rfl)
                clear hoth hdeps hdf hts ho
                refine wp_via (fun K' hK => ?_)
                have HK := Lib.hid hK
                clear hK
                go_simp
                exact HK.out _ _ ⟨_, rfl, hg, Kept.refl _ _, rfl⟩
              · obtain rfl := Option.some.inj ho
                obtain rfl := Option.some.inj hd
                clear hoth hdeps hdf hts ho
                refine wp_via (fun K' hK => ?_)
                have HK := Lib.hid hK
                clear hK
                go_simp
                exact HK.out _ _ ⟨_, rfl, hg.then_alloc _, Kept.alloc _ _ _, ⟨wx.heap.size, rfl, heap_at _ _ _ rfl⟩⟩
              · obtain rfl := Option.some.inj ho
                obtain rfl := Option.some.inj hd
                have e0 : a'.tmps.getD 5 undef = .pointer (some ⟨ab, 0, none⟩) := tmp_of ((hoth 5 (by decide)).trans rfl)
                clear hoth hdeps hdf hts ho
                refine wp_via (fun K' hK => ?_)
                have HK := Lib.hid hK
                clear hK
                go_simp
                exact HK.out _ _ ⟨_, rfl, hg, Kept.refl _ _, rfl⟩
              · obtain rfl := Option.some.inj ho
                obtain rfl := Option.some.inj hd
                have e0 : a'.tmps.getD 25 undef = .pointer (some ⟨ab, 1, none⟩) := hdeps 2 (by decide) 25 rfl
                clear hoth hdeps hdf hts ho
                refine wp_via (fun K' hK => ?_)
                have HK := Lib.hid hK
                clear hK
                go_simp
                exact HK.out _ _ ⟨_, rfl, hg, Kept.refl _ _, rfl⟩
              · obtain rfl := Option.some.inj ho
                obtain rfl := Option.some.inj hd
                obtain ⟨b9, e0, hbb⟩ : QStrs [emptB, scorB, choiB, wordB] (a'.tmps.getD 24 undef) wx := hdeps 1 (by decide) 24 rfl
                replace e0 : a'.tmps.getD 24 undef = .slice (some ⟨b9, 0, none⟩) 4 4 := e0
                have e1 : a'.tmps.getD 26 undef = .int .i64 2 := hdeps 3 (by decide) 26 rfl
                clear hoth hdeps hdf hts ho
                refine wp_via (fun K' hK => ?_)
                have HK := Lib.hid hK
                clear hK
                go_simp
                exact HK.out _ _ ⟨_, rfl, hg, Kept.refl _ _, ⟨b9, rfl, hbb⟩⟩
              · obtain rfl := Option.some.inj ho
                obtain rfl := Option.some.inj hd
                obtain ⟨b9, e0, hbb⟩ : QPS [emptB, scorB, choiB, wordB] 2 (a'.tmps.getD 27 undef) wx := hdeps 4 (by decide) 27 rfl
                replace e0 : a'.tmps.getD 27 undef = .pointer (some ⟨b9, 2, none⟩) := e0
                have c9 := cell_at (i := 2) hbb rfl
                clear hoth hdeps hdf hts ho
                refine wp_via (fun K' hK => ?_)
                have HK := Lib.hid hK
                clear hK
                go_simp
                exact HK.out _ _ ⟨_, rfl, hg, Kept.refl _ _, rfl⟩
              · obtain rfl := Option.some.inj ho
                obtain rfl := Option.some.inj hd
                have e0 : a'.tmps.getD 5 undef = .pointer (some ⟨ab, 0, none⟩) := tmp_of ((hoth 5 (by decide)).trans rfl)
                clear hoth hdeps hdf hts ho
                refine wp_via (fun K' hK => ?_)
                have HK := Lib.hid hK
                clear hK
                go_simp
                exact HK.out _ _ ⟨_, rfl, hg, Kept.refl _ _, rfl⟩
              · obtain rfl := Option.some.inj ho
                obtain rfl := Option.some.inj hd
                have e0 : a'.tmps.getD 29 undef = .pointer (some ⟨ab, 0, none⟩) := hdeps 6 (by decide) 29 rfl
                clear hoth hdeps hdf hts ho
                refine wp_via (fun K' hK => ?_)
                have HK := Lib.hid hK
                clear hK
                go_simp
                exact HK.out _ _ ⟨_, rfl, hg, Kept.refl _ _, rfl⟩
              · obtain rfl := Option.some.inj ho
                obtain rfl := Option.some.inj hd
                have e0 : a'.tmps.getD 28 undef = .string choiB := hdeps 5 (by decide) 28 rfl
                have e0q : a'.tmps[28]?.getD undef = .string choiB := by rw [← Array.getD_eq_getD_getElem?]; exact e0
                have e1 : a'.tmps.getD 30 undef = .string key := hdeps 7 (by decide) 30 rfl
                have e1q : a'.tmps[30]?.getD undef = .string key := by rw [← Array.getD_eq_getD_getElem?]; exact e1
                clear hoth hdeps hdf hts ho
                refine wp_via (fun K' hK => ?_)
                have HK := Lib.hid hK
                clear hK
                go_simp
                exact HK.out _ _ ⟨_, rfl, hg.then_alloc _, Kept.alloc _ _ _, ⟨wx.heap.size, rfl, heap_at _ _ _ rfl⟩⟩
            · intro wx f hg hd
              have e23f : f 23 = .slice av fl.length cv := hd 0 23 (by decide) rfl
              obtain ⟨b9, e31f, hbb⟩ : QStrs [choiB, key] (f 31) wx := hd 8 31 (by decide) rfl
              replace e31f : f 31 = .slice (some ⟨b9, 0, none⟩) 2 2 := e31f
              rw [show dsts _ 9 = [23, 24, 25, 26, 27, 28, 29, 30, 31] from by kernel_rfl]
              simp only [List.map_cons, List.map_nil, puts, Act.put, e23f, e31f, List.drop_succ_cons, List.drop_zero]
              generalize f 24 = f24
              generalize f 25 = f25
              generalize f 26 = f26
              generalize f 27 = f27
              generalize f 28 = f28
              generalize f 29 = f29
              generalize f 30 = f30
              clear hd e23f e31f f
              simp only [List.setIfInBounds_toArray, List.set_cons_zero, List.set_cons_succ]
              have hacx := HACC.out _ hg
              have hsz1 := hg.size
              have hsl : Sl RStr 1 (fun _ => True) wx (some ⟨b9, 0, none⟩) 2 [choiB, key] := Sl.of_strs rfl trivial (fun i hi => by
                have h2 : i = 0 ∨ i = 1 := by omega
                rcases h2 with rfl | rfl
                · exact cell_at hbb rfl
                · exact cell_at hbb rfl) (fun s hs => by
                have h2 : s = choiB ∨ s = key := by simpa using hs
                rcases h2 with rfl | rfl
                · decide
                · exact HS.out.1)
              go_wp2_with (at_builtin; refine wp_appendS _ rfl _ _ 29 rfl wa.heap.size 9 16 Tryz.underlying29 (by kernel_rfl) _ fl rfl hacx (some ⟨b9, 0, none⟩) 2 2 [choiB, key] rfl hsl (by omega) (by decide) (by omega) ?_)
              intro p' c' w9 hacc9 hg9
              have hw9 : All wa w9 := (HALL.out.trans hg).grown hg9 (fun j hj => Or.inl (hacx.lt j hj).1)
              have hsz9 := hw9.size
              have hb9 := HBX.out _ hw9
              have d1 := cell_at (i := 1) hb9 rfl
              have d3 := cell_at (i := 3) hb9 rfl
              clear hg hacx hsl hbb hg9 hb9 hsz1
              have hop9 := HOP.out _ hw9
              go_wp2_with (at_builtin; refine wp_appendS _ rfl _ _ 29 rfl wa.heap.size 9 16 Tryz.underlying29 (by kernel_rfl) _ (fl ++ [choiB, key]) rfl hacc9 oa opts.length oc opts rfl hop9 (by simp; omega) (by decide) (by omega) ?_)
              intro p2 c2 w10 hacc10 hg10
              obtain ⟨n1, hn1⟩ : ∃ z, z = fl.length + 2 + opts.length := ⟨_, rfl⟩
              rw [← hn1] at hacc10 ⊢
              have hw10 : All wa w10 := hw9.grown hg10 (fun j hj => Or.inl (hacc9.lt j hj).1)
              have hwsl : ws = fl ++ choiB :: key :: opts := hwse.out
              rw [← hwsl] at hacc10
              have hnl : ws.length = n1 := by rw [hwsl, hn1, List.length_append]; simp only [List.length_cons]; omega
              have hwne : ws ≠ [] := by rw [hwsl]; simp
              obtain ⟨g, c, hv, hgc, hgl, -, hcells⟩ := hacc10.strCells hwne
              rw [hnl] at hv
              injection hv with hv1 hv2 hv3
              subst hv1 hv3
              obtain ⟨jw, hjw⟩ : ∃ z : ByteArray, z = ⟨(Lib.join (ws.map (·.data.toList)) [32]).toArray⟩ := ⟨_, rfl⟩
              have hJ := joinC_any g 0 n1 c2 ws w10 hcells hgl hnl (by omega) (by omega) (by omega)
              rw [← hjw] at hJ
              have HJ := Lib.hid hJ
              have hjs : jw.size + 1 = (lineW ws).length := by rw [hjw]; simp [lineW, size_list]
              obtain ⟨bq, hbq, hbs, hrun⟩ := cat_runR Tryz.prog jw ⟨#[10]⟩ (by have : (⟨#[10]⟩ : ByteArray).size = 1 := rfl; omega)
              obtain ⟨bz, hbz, hbzs, hrun2⟩ := cat_runR Tryz.prog ok bq (by rw [hbq]; have : (catR jw ⟨#[10]⟩).size = jw.size + 1 := ByteArray.size_append; omega)
              have HEQ := Lib.hid (show (⟨(sheetL (xs.take (k + 1))).toArray⟩ : ByteArray) = bz from by rw [HT.out, lineW_cat, hbz, hbq, HOK.out, hjw])
              have HW10 := Lib.hid (HWA.out.trans hw10)
              clear hacc9 hg10 hacc10 hw10 hv2 hgc hgl hcells hn1 hbq hbz hjw hJ hnl hwsl
              go_wp2_with fail
              refine HJ.out.mono ?_
              rintro e w11 ⟨rfl, hk11⟩
              have hkf := Lib.hid (HW10.out.trans hk11)
              clear hk11
              go_wp2_with fail
              go_roundw
              case rel => exact ⟨k + 1, by omega, by go_num, by rw [HEQ.out], hkf.out⟩
              case measure => simp [intOf]; omega
          · have hwse := Lib.hid (W3.out rfl)
            have HO := Lib.hid (HN.out (by decide))
            obtain ⟨iz, hiz⟩ : ∃ z, z = itoaB most := ⟨_, rfl⟩
            have hizs : iz.size ≤ 1000000 := by have := itoaB_size most hq7 hq8; rw [hiz]; omega
            have HIT := Lib.hid (fun (wx : World) (k : All wa wx) => (show Calls Tryz.prog 88 #[.int .i64 most] wx fun e w' => e = .returned (.string iz) ∧ All wx w' from by rw [hiz]; exact itoa_any _ (by omega) (by omega) wx (HP.out.keep (HWA.out.trans k))))
            rw [← hiz] at hwse
            clear hiz
            clear W1 W2 W3 HN
            go_upto_region 10 with fail
            refine wp_region_inv 9 (by kernel_rfl) (by kernel_rfl) (by kernel_rfl) (fun _ wx => All wf2 wx)
              (DL [QIs (.slice av fl.length cv), QStrs [emptB, scorB, choiB, wordB], QIs (.pointer (some ⟨ab, 1, none⟩)), QIs (.int .i64 3), QPS [emptB, scorB, choiB, wordB] 3, QIs (.string wordB), QIs (.pointer (some ⟨ab, 0, none⟩)), QIs (.string key), QStrs [wordB, key]]) All
              (DL.keep (by simp only [List.forall_mem_cons, List.not_mem_nil, false_implies, implies_true, and_true]; exact ⟨QIs.stays _, QStrs.stays _, QIs.stays _, QIs.stays _, QPS.stays _ _, QIs.stays _, QIs.stays _, QIs.stays _, QStrs.stays _⟩)) (Kept.drew _ _) ?_ ?_
            · intro i o t ho hd hi k' a' wx hk' hg hdf hts hoth hdeps
              have hbx := HBX2.out _ hg
              have d0 := cell_at (i := 0) hbx rfl
              have d1 := cell_at (i := 1) hbx rfl
              clear hbx
              have hz : i = 0 ∨ i = 1 ∨ i = 2 ∨ i = 3 ∨ i = 4 ∨ i = 5 ∨ i = 6 ∨ i = 7 ∨ i = 8 := by omega
              rcases hz with rfl | rfl | rfl | rfl | rfl | rfl | rfl | rfl | rfl
              · obtain rfl := Option.some.inj ho
                obtain rfl := Option.some.inj hd
                have e0 : a'.tmps.getD 6 undef = .slice av fl.length cv := tmp_of ((hoth 6 (by decide)).trans rfl)
                clear hoth hdeps hdf hts ho
                refine wp_via (fun K' hK => ?_)
                have HK := Lib.hid hK
                clear hK
                go_simp
                exact HK.out _ _ ⟨_, rfl, hg, Kept.refl _ _, rfl⟩
              · obtain rfl := Option.some.inj ho
                obtain rfl := Option.some.inj hd
                clear hoth hdeps hdf hts ho
                refine wp_via (fun K' hK => ?_)
                have HK := Lib.hid hK
                clear hK
                go_simp
                exact HK.out _ _ ⟨_, rfl, hg.then_alloc _, Kept.alloc _ _ _, ⟨wx.heap.size, rfl, heap_at _ _ _ rfl⟩⟩
              · obtain rfl := Option.some.inj ho
                obtain rfl := Option.some.inj hd
                have e0 : a'.tmps.getD 5 undef = .pointer (some ⟨ab, 0, none⟩) := tmp_of ((hoth 5 (by decide)).trans rfl)
                clear hoth hdeps hdf hts ho
                refine wp_via (fun K' hK => ?_)
                have HK := Lib.hid hK
                clear hK
                go_simp
                exact HK.out _ _ ⟨_, rfl, hg, Kept.refl _ _, rfl⟩
              · obtain rfl := Option.some.inj ho
                obtain rfl := Option.some.inj hd
                have e0 : a'.tmps.getD 25 undef = .pointer (some ⟨ab, 1, none⟩) := hdeps 2 (by decide) 25 rfl
                clear hoth hdeps hdf hts ho
                refine wp_via (fun K' hK => ?_)
                have HK := Lib.hid hK
                clear hK
                go_simp
                exact HK.out _ _ ⟨_, rfl, hg, Kept.refl _ _, rfl⟩
              · obtain rfl := Option.some.inj ho
                obtain rfl := Option.some.inj hd
                obtain ⟨b9, e0, hbb⟩ : QStrs [emptB, scorB, choiB, wordB] (a'.tmps.getD 24 undef) wx := hdeps 1 (by decide) 24 rfl
                replace e0 : a'.tmps.getD 24 undef = .slice (some ⟨b9, 0, none⟩) 4 4 := e0
                have e1 : a'.tmps.getD 26 undef = .int .i64 3 := hdeps 3 (by decide) 26 rfl
                clear hoth hdeps hdf hts ho
                refine wp_via (fun K' hK => ?_)
                have HK := Lib.hid hK
                clear hK
                go_simp
                exact HK.out _ _ ⟨_, rfl, hg, Kept.refl _ _, ⟨b9, rfl, hbb⟩⟩
              · obtain rfl := Option.some.inj ho
                obtain rfl := Option.some.inj hd
                obtain ⟨b9, e0, hbb⟩ : QPS [emptB, scorB, choiB, wordB] 3 (a'.tmps.getD 27 undef) wx := hdeps 4 (by decide) 27 rfl
                replace e0 : a'.tmps.getD 27 undef = .pointer (some ⟨b9, 3, none⟩) := e0
                have c9 := cell_at (i := 3) hbb rfl
                clear hoth hdeps hdf hts ho
                refine wp_via (fun K' hK => ?_)
                have HK := Lib.hid hK
                clear hK
                go_simp
                exact HK.out _ _ ⟨_, rfl, hg, Kept.refl _ _, rfl⟩
              · obtain rfl := Option.some.inj ho
                obtain rfl := Option.some.inj hd
                have e0 : a'.tmps.getD 5 undef = .pointer (some ⟨ab, 0, none⟩) := tmp_of ((hoth 5 (by decide)).trans rfl)
                clear hoth hdeps hdf hts ho
                refine wp_via (fun K' hK => ?_)
                have HK := Lib.hid hK
                clear hK
                go_simp
                exact HK.out _ _ ⟨_, rfl, hg, Kept.refl _ _, rfl⟩
              · obtain rfl := Option.some.inj ho
                obtain rfl := Option.some.inj hd
                have e0 : a'.tmps.getD 29 undef = .pointer (some ⟨ab, 0, none⟩) := hdeps 6 (by decide) 29 rfl
                clear hoth hdeps hdf hts ho
                refine wp_via (fun K' hK => ?_)
                have HK := Lib.hid hK
                clear hK
                go_simp
                exact HK.out _ _ ⟨_, rfl, hg, Kept.refl _ _, rfl⟩
              · obtain rfl := Option.some.inj ho
                obtain rfl := Option.some.inj hd
                have e0 : a'.tmps.getD 28 undef = .string wordB := hdeps 5 (by decide) 28 rfl
                have e0q : a'.tmps[28]?.getD undef = .string wordB := by rw [← Array.getD_eq_getD_getElem?]; exact e0
                have e1 : a'.tmps.getD 30 undef = .string key := hdeps 7 (by decide) 30 rfl
                have e1q : a'.tmps[30]?.getD undef = .string key := by rw [← Array.getD_eq_getD_getElem?]; exact e1
                clear hoth hdeps hdf hts ho
                refine wp_via (fun K' hK => ?_)
                have HK := Lib.hid hK
                clear hK
                go_simp
                exact HK.out _ _ ⟨_, rfl, hg.then_alloc _, Kept.alloc _ _ _, ⟨wx.heap.size, rfl, heap_at _ _ _ rfl⟩⟩
            · intro wx f hg hd
              have e23f : f 23 = .slice av fl.length cv := hd 0 23 (by decide) rfl
              obtain ⟨b9, e31f, hbb⟩ : QStrs [wordB, key] (f 31) wx := hd 8 31 (by decide) rfl
              replace e31f : f 31 = .slice (some ⟨b9, 0, none⟩) 2 2 := e31f
              rw [show dsts _ 9 = [23, 24, 25, 26, 27, 28, 29, 30, 31] from by kernel_rfl]
              simp only [List.map_cons, List.map_nil, puts, Act.put, e23f, e31f, List.drop_succ_cons, List.drop_zero]
              generalize f 24 = f24
              generalize f 25 = f25
              generalize f 26 = f26
              generalize f 27 = f27
              generalize f 28 = f28
              generalize f 29 = f29
              generalize f 30 = f30
              clear hd e23f e31f f
              simp only [List.setIfInBounds_toArray, List.set_cons_zero, List.set_cons_succ]
              have hacx := HACC.out _ hg
              have hsz1 := hg.size
              have hsl : Sl RStr 1 (fun _ => True) wx (some ⟨b9, 0, none⟩) 2 [wordB, key] := Sl.of_strs rfl trivial (fun i hi => by
                have h2 : i = 0 ∨ i = 1 := by omega
                rcases h2 with rfl | rfl
                · exact cell_at hbb rfl
                · exact cell_at hbb rfl) (fun s hs => by
                have h2 : s = wordB ∨ s = key := by simpa using hs
                rcases h2 with rfl | rfl
                · decide
                · exact HS.out.1)
              go_wp2_with (at_builtin; refine wp_appendS _ rfl _ _ 29 rfl wa.heap.size 9 16 Tryz.underlying29 (by kernel_rfl) _ fl rfl hacx (some ⟨b9, 0, none⟩) 2 2 [wordB, key] rfl hsl (by omega) (by decide) (by omega) ?_)
              intro p' c' w9 hacc9 hg9
              have hw9 : All wa w9 := (HALL.out.trans hg).grown hg9 (fun j hj => Or.inl (hacx.lt j hj).1)
              have hsz9 := hw9.size
              have hb9 := HBX.out _ hw9
              have d1 := cell_at (i := 1) hb9 rfl
              have d2 := cell_at (i := 2) hb9 rfl
              clear hg hacx hsl hbb hg9 hb9 hsz1
              go_wp2_with fail
              refine (HIT.out _ hw9).mono ?_
              rintro e wi ⟨rfl, hki⟩
              have hacci := hacc9.keepAll RStr.ok hki
              have hszi := hki.size
              go_wp2_with (at_builtin; refine wp_append1 RStr.ok _ rfl _ _ 29 rfl wa.heap.size 9 (.string ⟨#[]⟩) 1 16 Tryz.underlying29 (by kernel_rfl) rfl (by decide) (fun _ => False) _ (fl ++ [wordB, key]) rfl (hacci.keepAll RStr.ok (Kept.alloc _ _ _)) ⟨_, 0, none⟩ 1 [.string iz] rfl rfl (World.news_of_block (cs := #[.string iz]) (heap_at _ _ _ (by simp))) (by simp [Value.oneCell']) iz ⟨rfl, hizs⟩ (by simp; omega) (by decide) (by simp <;> omega) ?_)
              intro p3 c3 w9b hacc9b hg9b _
              have hw9b : All wa w9b := ((hw9.trans hki).then_alloc _).grown hg9b (fun j hj => Or.inl (hacc9.lt j hj).1)
              have hsz9b := hw9b.size
              have hop9 := HOP.out _ hw9b
              have d3 := cell_at (i := 3) (HBX.out _ hw9b) rfl
              clear d1 d2 hki hacci hszi hw9 hg9b
              go_wp2_with (at_builtin; refine wp_appendS _ rfl _ _ 29 rfl wa.heap.size 9 16 Tryz.underlying29 (by kernel_rfl) _ (fl ++ [wordB, key, iz]) rfl hacc9b oa opts.length oc opts rfl hop9 (by simp; omega) (by decide) (by omega) ?_)
              intro p2 c2 w10 hacc10 hg10
              obtain ⟨n1, hn1⟩ : ∃ z, z = fl.length + 2 + 1 + opts.length := ⟨_, rfl⟩
              rw [← hn1] at hacc10 ⊢
              have hw10 : All wa w10 := hw9b.grown hg10 (fun j hj => Or.inl (hacc9b.lt j hj).1)
              have hwsl : ws = fl ++ wordB :: key :: iz :: opts := hwse.out.trans (word1_eq fl wordB key iz opts HO.out)
              rw [← hwsl] at hacc10
              have hnl : ws.length = n1 := by rw [hwsl, hn1, List.length_append]; simp only [List.length_cons]; omega
              have hwne : ws ≠ [] := by rw [hwsl]; simp
              obtain ⟨g, c, hv, hgc, hgl, -, hcells⟩ := hacc10.strCells hwne
              rw [hnl] at hv
              injection hv with hv1 hv2 hv3
              subst hv1 hv3
              obtain ⟨jw, hjw⟩ : ∃ z : ByteArray, z = ⟨(Lib.join (ws.map (·.data.toList)) [32]).toArray⟩ := ⟨_, rfl⟩
              have hJ := joinC_any g 0 n1 c2 ws w10 hcells hgl hnl (by omega) (by omega) (by omega)
              rw [← hjw] at hJ
              have HJ := Lib.hid hJ
              have hjs : jw.size + 1 = (lineW ws).length := by rw [hjw]; simp [lineW, size_list]
              obtain ⟨bq, hbq, hbs, hrun⟩ := cat_runR Tryz.prog jw ⟨#[10]⟩ (by have : (⟨#[10]⟩ : ByteArray).size = 1 := rfl; omega)
              obtain ⟨bz, hbz, hbzs, hrun2⟩ := cat_runR Tryz.prog ok bq (by rw [hbq]; have : (catR jw ⟨#[10]⟩).size = jw.size + 1 := ByteArray.size_append; omega)
              have HEQ := Lib.hid (show (⟨(sheetL (xs.take (k + 1))).toArray⟩ : ByteArray) = bz from by rw [HT.out, lineW_cat, hbz, hbq, HOK.out, hjw])
              have HW10 := Lib.hid (HWA.out.trans hw10)
              clear hacc9b hg10 hacc10 hw10 hv2 hgc hgl hcells hn1 hbq hbz hjw hJ hnl hwsl hacc9
              go_wp2_with fail
              refine HJ.out.mono ?_
              rintro e w11 ⟨rfl, hk11⟩
              have hkf := Lib.hid (HW10.out.trans hk11)
              clear hk11
              go_wp2_with fail
              go_roundw
              case rel => exact ⟨k + 1, by omega, by go_num, by rw [HEQ.out], hkf.out⟩
              case measure => simp [intOf]; omega
    · have hd8 : decide ((k : Int) < (len : Int)) = false := by simp; omega
      have e1 : xs.take k = xs := List.take_of_length_le (by omega)
      rw [e1]
      have hfin := Lib.hid hwr
      clear e1 hwr
      go_wp2_with fail
      go_ret
      exact ⟨rfl, hfin.out⟩
end Go.Proofs.YtjbaijgdkkccbaaGreatDoor
