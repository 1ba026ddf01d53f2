/- slices of replys: IndexFunc, ContainsFunc, DeleteFunc, Clone. -/
import Derived.Test.YtllkemadaemjeaaGreatDoorDk
import Derived.Test.YtllkemadaemjeaaGreatDoorYa
import Derived.Test.YtllkemadaemjeaaGreatDoorZb
namespace Go.Proofs.YtllkemadaemjeaaGreatDoor
open Go.RowKit


set_option maxHeartbeats 800000 in
theorem indexFuncReply_any (g : FuncId) (caps : Array Value) (eg : ∀ args w, (callFunc g args).run Tryz.prog w = .ok (.enter g args) w) (p : Rep3 → Bool) (G : Nat → Prop)
    (a : Option Addr) (len cap : Nat) (ss : List Rep3) (w : World) (hs : Sl RReply 3 (fun _ => True) w a len ss) (hl : len ≤ 1000000) (hp : AnswersG Tryz.prog g caps G w (fun y : Rep3 => Value.agg #[.string y.paper, .int .i64 y.tm, .string y.words]) p ss) :
    Calls Tryz.prog 141 #[.slice a len cap, .func (.func g) #[] caps] w fun e w' => e = .returned (.int .i64 (findA p 0 ss)) ∧ All w w' := by
  have Hlen := Lib.hid hs.len
  have HP := Lib.hid hp
  clear hp
  go_enter Tryz.func141, Tryz.ntmps141
  go_wp2
  go_loopw [5, 8] (fun _ i wr => ∃ k : Nat, k ≤ len ∧ i = .int .i64 k ∧ (ss.take k).any p = false ∧ All w wr) (fun _ i _ => len - (intOf i).toNat)
  case atStart => exact ⟨0, Nat.zero_le _, rfl, by simp, Kept.refl _ _⟩
  case round =>
    obtain ⟨k, hk, rfl, hnot, hall⟩ := hrel
    have Hnot := Lib.hid hnot
    clear hnot
    by_cases hlt : k < len
    · obtain ⟨b, off, y, ha, -, c0, c1, c2, hS, hy, -, -⟩ := (hs.keep RReply.ok hall).atReply hlt
      have Hy := Lib.hid hy
      have hmem := List.mem_of_getElem? hy
      clear hy
      subst ha
      clear hs
      cases hpy : p y with
      | true =>
        have Hfin := Lib.hid (findA_at Hnot.out Hy.out hpy)
        go_wp2_with fail
        refine (HP.out y hmem _ (Kept.all hall)).mono ?_
        rintro e w' ⟨rfl, hw⟩
        rw [hpy]
        go_wp2_with fail
        go_ret
        exact ⟨ret_int' Hfin.out.symm, hall.trans hw⟩
      | false =>
        have Hn := Lib.hid (anyA_next Hnot.out Hy.out hpy)
        go_wp2_with fail
        refine (HP.out y hmem _ (Kept.all hall)).mono ?_
        rintro e w' ⟨rfl, hw⟩
        rw [hpy]
        go_wp2_with fail
        go_roundw
        case rel => exact ⟨k + 1, by omega, by go_num, Hn.out, hall.trans hw⟩
        case measure => simp [intOf]; omega
    · have hd : decide ((k : Int) < (len : Int)) = false := by simp; omega
      have Hfin := Lib.hid (findA_end Hnot.out (by have := Hlen.out; omega))
      go_wp2
      go_ret
      exact ⟨ret_int' Hfin.out.symm, hall⟩


theorem containsFuncReply_any (g : FuncId) (caps : Array Value) (eg : ∀ args w, (callFunc g args).run Tryz.prog w = .ok (.enter g args) w) (p : Rep3 → Bool) (G : Nat → Prop)
    (a : Option Addr) (len cap : Nat) (ss : List Rep3) (w : World) (hs : Sl RReply 3 (fun _ => True) w a len ss) (hl : len ≤ 1000000) (hp : AnswersG Tryz.prog g caps G w (fun y : Rep3 => Value.agg #[.string y.paper, .int .i64 y.tm, .string y.words]) p ss) :
    Calls Tryz.prog 86 #[.slice a len cap, .func (.func g) #[] caps] w fun e w' => e = .returned (.bool (ss.any p)) ∧ All w w' := by
  have hI := Lib.hid (indexFuncReply_any g caps eg p G a len cap ss w hs hl hp)
  clear hp
  cases hx : ss.any p with
  | true =>
    have h0 := findA_nonneg (k := 0) hx
    clear hx
    go_enter Tryz.func86, Tryz.ntmps86
    go_wp2_with fail
    refine hI.out.mono ?_
    rintro e w' ⟨rfl, hw⟩
    go_wp2
    go_ret
    exact ⟨rfl, hw⟩
  | false =>
    have h0 := findA_neg (k := 0) hx
    clear hx
    go_enter Tryz.func86, Tryz.ntmps86
    go_wp2_with fail
    refine hI.out.mono ?_
    rintro e w' ⟨rfl, hw⟩
    rw [h0]
    go_wp2
    go_ret
    exact ⟨rfl, hw⟩


set_option maxRecDepth 100000 in
set_option maxHeartbeats 1600000 in
theorem deleteFuncReply_any {B : Nat} (g : FuncId) (caps : Array Value) (eg : ∀ args w, (callFunc g args).run Tryz.prog w = .ok (.enter g args) w) (p : Rep3 → Bool)
    (v : Value) (xs : List Rep3) (w : World) (h : Acc RReply 3 79 (fun _ => False) B w v xs) (hl : xs.length ≤ 1000000) (hp : AnswersG Tryz.prog g caps (fun k => v.ownBlock ≠ some k) w (fun y : Rep3 => Value.agg #[.string y.paper, .int .i64 y.tm, .string y.words]) p xs) :
    Calls Tryz.prog 82 #[v, .func (.func g) #[] caps] w (DelPost RReply 3 79 B v (keptA p xs) w) := by
  obtain ⟨a, cap, rfl, hcap⟩ := h.form
  obtain ⟨a', cap', hv', hsl⟩ := h.sl RReply.ok (by decide) (G := fun _ => True) (fun _ h => h.elim) (fun _ _ => trivial)
  cases hv'
  have HI := Lib.hid (indexFuncReply_any g caps eg p _ a xs.length cap xs w hsl hl hp)
  have HP := Lib.hid hp
  cases hx : xs.any p with
  | false =>
    have h0 := findA_neg (k := 0) hx
    have HK := Lib.hid (keptA_none hx)
    rw [h0] at HI
    obtain ⟨n, hn⟩ : ∃ n, n = xs.length := ⟨_, rfl⟩
    have HN := Lib.hid hn
    rw [← hn] at HI hcap hl ⊢
    clear hx h0 hp hsl hn
    go_enter Tryz.func82, Tryz.ntmps82
    go_wp2_with fail
    refine HI.out.mono ?_
    rintro e w' ⟨rfl, hw⟩
    go_wp2_with fail
    go_ret
    exact ⟨a, cap, by rw [HK.out, ← HN.out]; rfl, by rw [HK.out]; exact h.keepAll RReply.ok hw, Kept.all hw, by rw [HK.out, ← HN.out]⟩
  | true =>
    obtain ⟨i0, y0, h0, hy0, hp0, hn0⟩ := findA_hit (k := 0) hx
    rw [Nat.zero_add] at h0
    rw [h0] at HI
    have hi0 := (List.getElem?_eq_some_iff.1 hy0).1
    obtain ⟨g0, cap2, cur0, hv2, hb0, hg0, h1, hm, h3⟩ := h.flatRow (by omega)
    cases hv2
    have HS0 := Lib.hid (Sift.start hy0 hp0 hn0)
    obtain ⟨n, hn⟩ : ∃ n, n = xs.length := ⟨_, rfl⟩
    have HN := Lib.hid hn
    rw [← hn] at HI hcap hl h1 hi0 h HP ⊢
    have hne1 : ((i0 : Int) == -1) = false := beq_eq_false_iff_ne.2 (by omega)
    have hm' : (cap : Int) ≤ 9223372036854775807 := by unfold maxLen at hm; omega
    have hown : (Value.slice (some ⟨g0, 0, none⟩) n cap).ownBlock = some g0 := rfl
    rw [hown] at HP
    clear hx h0 hp hsl hn hy0 hp0 hn0 hg0 h3
    go_enter Tryz.func82, Tryz.ntmps82
    go_wp2_with fail
    refine HI.out.mono ?_
    rintro e w1 ⟨rfl, hw1⟩
    go_wp2_with fail
    go_loopw [5, 6, 7] (fun si sj _ wr => ∃ i j : Nat, si = .int .i64 i ∧ sj = .int .i64 j ∧ j ≤ n ∧ ∃ qs : List Rep3, Sift p xs qs i j ∧ Acc RReply 3 79 (fun _ => False) B wr (.slice (some ⟨g0, 0, none⟩) n cap) qs ∧ Kept (fun k => k ≠ g0) w wr) (fun _ sj _ _ => n - (intOf sj).toNat)
    case atStart => exact ⟨i0, i0 + 1, rfl, by go_num, by omega, xs, HS0.out, h.keepAll RReply.ok hw1, Kept.all hw1⟩
    case round =>
      clear h hw1 HS0
      obtain ⟨i, j, rfl, rfl, hjn, qs, hsi, hacc, hk⟩ := hrel
      obtain ⟨wo, rfl⟩ : ∃ wo : World, wo = wr := ⟨_, rfl⟩
      have hij := hsi.lt
      have hql := hsi.len
      have hqn : qs.length = n := by rw [hql]; exact HN.out.symm
      obtain ⟨a', c', hv', hslq⟩ := hacc.sl RReply.ok (by decide) (G := fun _ => True) (fun _ h => h.elim) (fun _ _ => trivial)
      rw [hqn] at hv' hslq
      cases hv'
      obtain ⟨g2, cap3, cur, hv3, -, hg, -, -, hcs⟩ := hacc.flatRow (by omega)
      have hgg : g2 = g0 := by cases hv3; rfl
      have hcc : cap3 = cap := by cases hv3; rfl
      subst hgg
      subst hcc
      have HSI := Lib.hid hsi
      have hic : i < cap3 := by omega
      by_cases hlt : j < n
      · obtain ⟨b, off, y, ha, -, c0, c1, c2, hS, hy, -, -⟩ := hslq.atReply hlt
        cases ha
        have hyx : xs[j]? = some y := by rw [← hsi.rest j (Nat.le_refl _)]; exact hy
        have HYX := Lib.hid hyx
        have hmem := List.mem_of_getElem? hyx
        try rw [Nat.zero_add] at *
        have HG := Lib.hid hg
        have p0 := hslq.atReply (k := i) (by omega)
        obtain ⟨b, off, yi, hai, -, q0, q1, q2, -, -, -, -⟩ := p0
        cases hai
        try rw [Nat.zero_add] at *
        have hblk := heap_at wo (.cells #[.string y.paper, .int .i64 y.tm, .string y.words] 79) _ rfl
        clear hy hyx hslq hsi hv3 hg hcs hql hqn
        cases hpy : p y with
        | true =>
          have HNX := Lib.hid (HSI.out.drop HYX.out hpy)
          go_wp2_with fail
          refine (HP.out y hmem _ ((hk.then_alloc _).mono (fun k h e => h (by rw [e])))).mono ?_
          rintro e w2 ⟨rfl, hw2⟩
          rw [hpy]
          have rr := fun (u : Nat) (v : Value) (hv : (#[.string y.paper, .int .i64 y.tm, .string y.words] : Array Value)[u]? = some v) => hw2.cell (cell_at (i := u) hblk hv) trivial
          have r0 := rr 0 _ rfl
          have r1 := rr 1 _ rfl
          have r2 := rr 2 _ rfl
          replace hw2 := (Kept.alloc (fun _ => True) wo (.cells #[.string y.paper, .int .i64 y.tm, .string y.words] 79)).trans hw2
          clear rr hblk
          go_wp2_with fail
          go_roundw
          case rel => exact ⟨i, j + 1, rfl, by go_num, by omega, qs, HNX.out, hacc.keepAll RReply.ok hw2, hk.trans (Kept.all hw2)⟩
          case measure => simp [intOf]; omega
        | false =>
          have HNX := Lib.hid (HSI.out.keep HYX.out hpy)
          go_wp2_with fail
          refine (HP.out y hmem _ ((hk.then_alloc _).mono (fun k h e => h (by rw [e])))).mono ?_
          rintro e w2 ⟨rfl, hw2⟩
          rw [hpy]
          have rr := fun (u : Nat) (v : Value) (hv : (#[.string y.paper, .int .i64 y.tm, .string y.words] : Array Value)[u]? = some v) => hw2.cell (cell_at (i := u) hblk hv) trivial
          have r0 := rr 0 _ rfl
          have r1 := rr 1 _ rfl
          have r2 := rr 2 _ rfl
          replace hw2 := (Kept.alloc (fun _ => True) wo (.cells #[.string y.paper, .int .i64 y.tm, .string y.words] 79)).trans hw2
          clear rr hblk
          have hg2 := hw2.heap HG.out trivial
          have z0 := frozen_at (i := i * 3) hg2
          have z1 := frozen_at (i := i * 3 + 1) hg2
          have z2 := frozen_at (i := i * 3 + 2) hg2
          have q0 := hw2.cell q0 trivial
          have q1 := hw2.cell q1 trivial
          have q2 := hw2.cell q2 trivial
          clear hg2
          go_wp2_with fail
          go_roundw
          case rel => exact ⟨i + 1, j + 1, by go_num, by go_num, by omega, qs.set i y, HNX.out, by have hh := Acc.setFlat flatReply (hacc.keepAll RReply.ok hw2) i (by omega) y hS; exact hh, (hk.trans (Kept.all hw2)).trans (kept_setCellsF (F := fun k => k ≠ g2) g2 (by simp) (encRep y) w2 (i * 3))⟩
          case measure => simp [intOf]; omega
      · have hdk : decide ((j : Int) < (n : Int)) = false := by simp; omega
        have hin : i < n := by omega
        have hle2 : i * 3 + (n - i) * 3 ≤ cap3 * 3 := by rw [← Nat.add_mul]; exact Nat.mul_le_mul_right _ (by omega)
        obtain ⟨zs, hzs⟩ : ∃ zs, zs = (Builtin.zeroCells (.agg #[.string ⟨#[]⟩, .int .i64 0, .string ⟨#[]⟩] : Value).cells (n - i)).toList := ⟨_, rfl⟩
        have hzl : zs.length = (n - i) * 3 := by rw [hzs]; simp [Builtin.zeroCells, Value.cells]
        have hclr : ∀ ty, (Builtin.clear_ #[68] ty #[.slice (some ⟨g2, i * 3, none⟩) (n - i) (cap3 - i)]).run Tryz.prog wo = .ok (.tuple #[]) (wo.setCells g2 (i * 3) zs) := fun ty => by
          rw [hzs]
          refine run_clear_flat wo _ _ ty (.agg #[.string ⟨#[]⟩, .int .i64 0, .string ⟨#[]⟩]) Tryz.underlying68 Tryz.zeroValue79 g2 _ (n - i) (cap3 - i) (by omega) (fun u hu => ?_) (fun t ht => ?_) (fun t ht => frozen_at hg)
          · obtain ⟨t, ht, rfl⟩ := List.getElem_of_mem hu
            simp [Builtin.zeroCells, Value.cells]
            have h5 : t % 3 < 3 := Nat.mod_lt _ (by decide)
            generalize t % 3 = m at *
            rcases m with _ | m
            · rfl
            rcases m with _ | m
            · rfl
            rcases m with _ | m
            · rfl
            omega
          · have hzl2 : (Builtin.zeroCells (.agg #[.string ⟨#[]⟩, .int .i64 0, .string ⟨#[]⟩] : Value).cells (n - i)).size = (n - i) * 3 := by simp [Builtin.zeroCells, Value.cells]
            have ht2 : i * 3 + t < cur.size := by rw [hcs]; omega
            simp [World.cell?, hg, ht2]
        have hacc9 := Acc.cutFlat flatReply hacc i hin zs hzl
        have hk9 : Kept (fun k => k ≠ g2) w (wo.setCells g2 (i * 3) zs) := hk.trans (kept_setCellsF g2 (by simp) _ _ _)
        have HD := Lib.hid (hsi.done (by have := HN.out; omega))
        have hil : (keptA p xs).length = i := by rw [← HD.out]; simp; omega
        have HIL := Lib.hid hil
        rw [HD.out] at hacc9
        clear hil hsi hslq hacc hk hv3 hg hcs hql hqn hzs hzl hle2
        generalize wo.setCells g2 (i * 3) zs = w9 at *
        go_wp2_with fail
        go_ret
        exact ⟨some ⟨g2, 0, none⟩, cap3, by rw [HIL.out]; rfl, by rw [HIL.out]; exact hacc9, hk9.mono (fun k hk e => hk (by rw [e]; rfl)), rfl⟩


set_option maxHeartbeats 800000 in
theorem cloneReply_any (a : Option Addr) (len cap : Nat) (xs : List Rep3) (w : World) (hs : Sl RReply 3 (fun _ => True) w a len xs) (hl : len ≤ 1000000) :
    Calls Tryz.prog 83 #[.slice a len cap] w (CopyG RReply 3 79 xs w) := by
  have Hlen := Lib.hid hs.len
  cases a with
  | none =>
    have h0 : len = 0 := by
      rcases Nat.eq_zero_or_pos len with h | h
      · exact h
      · obtain ⟨b, off, ha, -⟩ := hs.2 h
        cases ha
    have hx : xs = [] := List.eq_nil_of_length_eq_zero (by have := Hlen.out; omega)
    subst hx
    subst h0
    have hnil := @Lib.run_eql_slice_nil Tryz.prog
    go_enter Tryz.func83, Tryz.ntmps83
    go_wp2_with fail
    go_ret
    exact ⟨_, _, rfl, Acc.nil _ _ _ _ _ _, Kept.refl _ _⟩
  | some ad =>
    have hnil := @Lib.run_eql_slice_nil Tryz.prog
    have hsl : Sl RReply 3 (fun k => k < w.heap.size) w (some ad) len xs := (hs.live RReply.ok (by decide)).mono RReply.ok (fun k hk => hk.2)
    go_enter Tryz.func83, Tryz.ntmps83
    go_wp2_with (at_builtin; refine wp_cloneG RReply.ok _ rfl _ _ 68 rfl 79 (.agg #[.string ⟨#[]⟩, .int .i64 0, .string ⟨#[]⟩]) 3 40 Tryz.underlying68 (by kernel_rfl) rfl (by decide) (fun k => k < w.heap.size) w rfl rfl ad len cap xs rfl (hsl.keep RReply.ok (Kept.alloc _ _ _)) (fun _ h => h) (fun vs y hv => by obtain ⟨rfl, -⟩ := (Flat.iff flatReply _ _ _ _).1 hv; exact Flat.one flatReply y) (by omega) (by decide) ?_)
    intro p' c' w2 hacc hw2
    clear hs hsl hnil
    go_wp2_with fail
    go_ret
    exact ⟨_, _, rfl, Acc.flatAny flatReply _ hacc, hw2⟩

end Go.Proofs.YtllkemadaemjeaaGreatDoor
