/- tidy of replys: SortFunc, CompactFunc. -/
import Derived.Test.YtllkemadaemjeaaGreatDoorIa
import Derived.Test.YtllkemadaemjeaaGreatDoorYd
import Derived.Test.YtllkemadaemjeaaGreatDoorSq
namespace Go.Proofs.YtllkemadaemjeaaGreatDoor
open Go.RowKit Go.Sort

theorem sortReply_any {T : TypeId} {F : Nat → Prop} {B : Nat} (cf : Rep3 → Rep3 → Int) (hO : IsCmp cf) (g : FuncId) (caps : Array Value) (eg : ∀ args w, (callFunc g args).run Tryz.prog w = .ok (.enter g args) w) (v : Value) (xs : List Rep3) (w : World) (h : Acc RReply 3 T F B w v xs) (hl : xs.length ≤ 1000000) (hcmp : ∀ g0, v.ownBlock = some g0 → CmpLays Tryz.prog g caps encRep 3 cf g0 0 xs.length w) :
    Calls Tryz.prog 142 #[v, .func (.func g) #[] caps] w fun e w' => e = .returned (.tuple #[]) ∧ ∃ qs : List Rep3, qs.Perm xs ∧ qs.Pairwise (fun x y => cf x y ≤ 0) ∧ Acc RReply 3 T F B w' v qs ∧ w.grownBy w' v.ownBlock := by
  rcases h.sortable flatReply with ⟨rfl, rfl⟩ | ⟨g0, cap, rfl, hb, hlt, hH, hS, hafter⟩
  · refine (Tryz.slices_SortFunc_rep_none none 0 _ w).mono ?_
    rintro e w' ⟨rfl, rfl⟩
    exact ⟨rfl, [], List.Perm.refl _, List.Pairwise.nil, h, ⟨rfl, rfl, rfl, Nat.le_refl _, fun _ _ _ => rfl⟩⟩
  · have hC := Tryz.slices_SortFunc_rep encRep (Flat.len flatReply) (Flat.one flatReply) cf hO.swo g caps g0 0 cap xs.toArray w eg (by simpa using hcmp g0 rfl) hH hlt (by simp; omega)
    simp only [List.size_toArray] at hC
    refine hC.mono ?_
    rintro e w' ⟨rfl, d', n, os, hp, hs, rfl⟩
    obtain ⟨hd, hperm⟩ := perm_list hp
    obtain ⟨ha, hg⟩ := hafter d' n os hd (fun x hx => hS x (hperm.mem_iff.1 hx))
    exact ⟨rfl, d'.toList, hperm, sorted_list hO hs hd, ha, hg⟩

set_option maxRecDepth 100000 in
set_option maxHeartbeats 6400000 in
theorem compactFReply_any {B : Nat} (cb : Nat) (eq : Rep3 → Rep3 → Bool) (v : Value) (xs : List Rep3) (w : World) (h : Acc RReply 3 79 (fun _ => False) B w v xs) (hl : xs.length ≤ 1000000) (hp : AnswersE Tryz.prog 144 #[.pointer (some ⟨cb, 0, none⟩)] (fun k => v.ownBlock ≠ some k) w (fun y : Rep3 => Value.agg #[.string y.paper, .int .i64 y.tm, .string y.words]) eq xs) :
    Calls Tryz.prog 143 #[v, .func (.func 144) #[] #[.pointer (some ⟨cb, 0, none⟩)]] w (DelPost RReply 3 79 B v (compL eq xs) w) := by
  obtain ⟨a, cap, rfl, hcap⟩ := h.form
  by_cases h2 : xs.length < 2
  · have HE := Lib.hid (compL_one eq h2)
    obtain ⟨n, hn⟩ : ∃ n, n = xs.length := ⟨_, rfl⟩
    have HN := Lib.hid hn
    rw [← hn] at h h2 ⊢
    have hd : decide ((n : Int) < 2) = true := by simp; omega
    clear hn hp
    go_enter Tryz.func143, Tryz.ntmps143
    go_wp2_with fail
    go_ret
    exact ⟨a, cap, by rw [HE.out, ← HN.out]; rfl, by rw [HE.out, ← HN.out]; exact h, Kept.refl _ _, by rw [HE.out, ← HN.out]⟩
  · obtain ⟨g0, cap', cur0, hv0, hb0, hg0, h1, hm, h3⟩ := h.flatRow (by omega)
    cases hv0
    have hP0 : ∀ (x y : Rep3), x ∈ xs → y ∈ xs → ∀ wx, Kept (fun k => k ≠ g0) w wx → Calls Tryz.prog 144 #[.agg #[.string x.paper, .int .i64 x.tm, .string x.words], .agg #[.string y.paper, .int .i64 y.tm, .string y.words], .pointer (some ⟨cb, 0, none⟩)] wx fun e w' => e = .returned (.bool (eq x y)) ∧ All wx w' := fun x y hx hy wx hk => hp x hx y hy wx (hk.mono (fun k hk e => hk (by rw [← e]; rfl)))
    have HP := Lib.hid hP0
    obtain ⟨n, hn⟩ : ∃ n, n = xs.length := ⟨_, rfl⟩
    have HN := Lib.hid hn
    rw [← hn] at h h2 h1 hl ⊢
    have hd : decide ((n : Int) < 2) = false := by simp; omega
    have hm' : (cap : Int) ≤ 9223372036854775807 := by unfold maxLen at hm; omega
    clear hn hcap hp hP0 h3 hg0
    go_enter Tryz.func143, Tryz.ntmps143
    go_wp2_with fail
    go_loopw [5] (fun i wr => ∃ k : Nat, 1 ≤ k ∧ k ≤ n ∧ i = .int .i64 k ∧ compL eq (xs.take k) = xs.take k ∧ All w wr) (fun i _ => n - (intOf i).toNat)
    case atStart => exact ⟨1, by omega, by omega, rfl, compL_all eq (by have := HN.out; omega) (fun i x y hi => by omega), Kept.refl _ _⟩
    case round =>
      obtain ⟨k, hk1, hk2, rfl, hco, hwr⟩ := hrel
      obtain ⟨wo, rfl⟩ : ∃ wo : World, wo = wr := ⟨_, rfl⟩
      have HCO := Lib.hid hco
      clear hco
      by_cases hlt : k < n
      · obtain ⟨kp, rfl⟩ : ∃ kp, k = kp + 1 := ⟨k - 1, by omega⟩
        obtain ⟨a', c', hv', hsl⟩ := (h.keepAll RReply.ok hwr).sl RReply.ok (by decide) (G := fun _ => True) (fun _ h => h.elim) (fun _ _ => trivial)
        have hps := HN.out
        rw [← hps] at hv' hsl
        cases hv'
        obtain ⟨b1, o1, x, hab1, -, p0, p1, p2, -, hx, -, -⟩ := hsl.atReply (k := kp) (by omega)
        cases hab1
        obtain ⟨b2, o2, y, hab2, -, q0, q1, q2, -, hy, -, -⟩ := hsl.atReply (k := kp + 1) (by omega)
        cases hab2
        rw [Nat.zero_add] at p0 p1 p2 q0 q1 q2
        have HX := Lib.hid hx
        have HY := Lib.hid hy
        have hmx := Lib.hid (List.mem_of_getElem? hx)
        have hmy := Lib.hid (List.mem_of_getElem? hy)
        clear hps hsl hx hy
        have f1 : IntKind.i64.wrap (kp : Int) = (kp : Int) := IntWalk.i64_in _ (by omega)
        have f3 : (0 : Int) ≤ (kp : Int) := by omega
        have f4 : (kp : Int) < (n : Int) := by omega
        have f6 : (0 : Int) ≤ (kp : Int) + 1 := by omega
        have f7 : (kp : Int) + 1 < (n : Int) := by omega
        have hdk1 : decide ((kp : Int) + 1 < (n : Int)) = true := by simp; omega
        have HQ := Lib.hid (fun (wx : World) (k : All wo wx) => HP.out y x hmy.out hmx.out wx (Kept.all (hwr.trans k)))
        cases he : eq y x with
        | false =>
          have HNX := Lib.hid (show compL eq (xs.take (kp + 2)) = xs.take (kp + 2) by
            rw [compL_next eq HX.out HY.out, if_neg (by simp [he]), HCO.out]; exact (take_snoc HY.out).symm)
          rw [he] at HQ
          clear he
          go_wp2_with fail
          go_region_held3 (fun w' => w'.cell? ⟨g0, kp * 3, none⟩ = some (.string x.paper) ∧ w'.cell? ⟨g0, kp * 3 + 1, none⟩ = some (.int .i64 x.tm) ∧ w'.cell? ⟨g0, kp * 3 + 2, none⟩ = some (.string x.words) ∧ w'.cell? ⟨g0, ((kp + 1)) * 3, none⟩ = some (.string y.paper) ∧ w'.cell? ⟨g0, ((kp + 1)) * 3 + 1, none⟩ = some (.int .i64 y.tm) ∧ w'.cell? ⟨g0, ((kp + 1)) * 3 + 2, none⟩ = some (.string y.words)) (first | go_keep | exact ⟨by assumption, by assumption, by assumption, by assumption, by assumption, by assumption⟩) (first | (go_at_call 144; refine (HQ.out _ (by repeat (first | exact Kept.refl _ _ | refine Kept.then_drew ?_ | refine Kept.then_drewN ?_ _ | refine Kept.then_alloc ?_ _))).mono ?_; rintro e wq ⟨rfl, hq⟩; have hp1 : All wo wq := Kept.trans (by repeat (first | exact Kept.refl _ _ | refine Kept.then_drew ?_ | refine Kept.then_drewN ?_ _ | refine Kept.then_alloc ?_ _)) hq; have ap0 := hp1.cell p0 trivial; have ap1 := hp1.cell p1 trivial; have ap2 := hp1.cell p2 trivial; have aq0 := hp1.cell q0 trivial; have aq1 := hp1.cell q1 trivial; have aq2 := hp1.cell q2 trivial))
          go_wp2_with fail
          go_roundw
          case rel => exact ⟨kp + 1 + 1, by omega, by omega, by go_num, HNX.out, hwr.trans hp1⟩
          case measure => simp [intOf]; omega
        | true =>
          have HS0 := Lib.hid (Squash.start HX.out HY.out he HCO.out)
          rw [he] at HQ
          clear he
          go_wp2_with fail
          go_region_held3 (fun w' => w'.cell? ⟨g0, kp * 3, none⟩ = some (.string x.paper) ∧ w'.cell? ⟨g0, kp * 3 + 1, none⟩ = some (.int .i64 x.tm) ∧ w'.cell? ⟨g0, kp * 3 + 2, none⟩ = some (.string x.words) ∧ w'.cell? ⟨g0, ((kp + 1)) * 3, none⟩ = some (.string y.paper) ∧ w'.cell? ⟨g0, ((kp + 1)) * 3 + 1, none⟩ = some (.int .i64 y.tm) ∧ w'.cell? ⟨g0, ((kp + 1)) * 3 + 2, none⟩ = some (.string y.words)) (first | go_keep | exact ⟨by assumption, by assumption, by assumption, by assumption, by assumption, by assumption⟩) (first | (go_at_call 144; refine (HQ.out _ (by repeat (first | exact Kept.refl _ _ | refine Kept.then_drew ?_ | refine Kept.then_drewN ?_ _ | refine Kept.then_alloc ?_ _))).mono ?_; rintro e wq ⟨rfl, hq⟩; have hp1 : All wo wq := Kept.trans (by repeat (first | exact Kept.refl _ _ | refine Kept.then_drew ?_ | refine Kept.then_drewN ?_ _ | refine Kept.then_alloc ?_ _)) hq; have ap0 := hp1.cell p0 trivial; have ap1 := hp1.cell p1 trivial; have ap2 := hp1.cell p2 trivial; have aq0 := hp1.cell q0 trivial; have aq1 := hp1.cell q1 trivial; have aq2 := hp1.cell q2 trivial))
          go_wp2_with fail
          clear f1 f3 f4 f6 f7 p0 p1 p2 q0 q1 q2 ap0 ap1 ap2 aq0 aq1 aq2
          obtain ⟨m, hmm⟩ : ∃ m, m = n - (kp + 1) := ⟨_, rfl⟩
          rw [← hmm]
          have HM := Lib.hid (show m + (kp + 1) = n by omega)
          have hm1 : 1 ≤ m := by omega
          have hmn : m < n := by omega
          have hacc0 := h.keepAll RReply.ok (hwr.trans hp1)
          have hk0 : Kept (fun i => i ≠ g0) w wq := Kept.all (hwr.trans hp1)
          clear hmm
          go_loopw [5, 7] (fun i j wr => ∃ k k2 : Nat, i = .int .i64 k ∧ j = .int .i64 k2 ∧ 1 ≤ k ∧ 1 ≤ k2 ∧ k2 ≤ m ∧ ∃ qs : List Rep3, Squash eq xs qs k (kp + k2) ∧ Acc RReply 3 79 (fun _ => False) B wr (.slice (some ⟨g0, 0, none⟩) n cap) qs ∧ Kept (fun i => i ≠ g0) w wr) (fun _ j _ => m - (intOf j).toNat)
          case atStart => exact ⟨kp + 1, 1, rfl, rfl, by omega, by omega, by omega, xs, HS0.out, hacc0, hk0⟩
          case round =>
            clear hacc0 hk0 hwr HS0
            obtain ⟨k, k2, rfl, rfl, hk1', hk21, hk2m, qs, hsq, hacc, hwk⟩ := hrel
            obtain ⟨wi, rfl⟩ : ∃ wi : World, wi = wr := ⟨_, rfl⟩
            have hkJ := hsq.lt
            have hqn : qs.length = n := by rw [hsq.len]; exact HN.out.symm
            have hkn : k < n := by have := HM.out; omega
            have hkc : k < cap := by omega
            obtain ⟨a', c', hv', hsl⟩ := hacc.sl RReply.ok (by decide) (G := fun _ => True) (fun _ h => h.elim) (fun _ _ => trivial)
            rw [hqn] at hv' hsl
            cases hv'
            obtain ⟨g', cap'', cur', hv'', -, hgi, -, -, h3'⟩ := hacc.flatRow (by omega)
            have hcg : cap'' = cap ∧ g' = g0 := by cases hv''; exact ⟨rfl, rfl⟩
            obtain ⟨hc1, hc2⟩ := hcg
            subst hc1
            subst hc2
            have HSQ := Lib.hid hsq
            by_cases hlt2 : k2 < m
            · obtain ⟨j, rfl⟩ : ∃ j, k2 = j + 1 := ⟨k2 - 1, by omega⟩
              obtain ⟨b1, o1, x', hab1, -, p0, p1, p2, -, hx, -, -⟩ := hsl.atReply (k := kp + 1 + j) (by have := HM.out; omega)
              cases hab1
              obtain ⟨b2, o2, y', hab2, -, q0, q1, q2, hS, hy, -, -⟩ := hsl.atReply (k := kp + 1 + (j + 1)) (by have := HM.out; omega)
              cases hab2
              obtain ⟨b3, o3, z', hab3, -, s0, s1, s2, -, -, -, -⟩ := hsl.atReply (k := k) hkn
              cases hab3
              have hx2 : xs[kp + (j + 1)]? = some x' := by rw [← hsq.rest _ (Nat.le_refl _), show kp + (j + 1) = kp + 1 + j by omega]; exact hx
              have hy2 : xs[kp + (j + 1) + 1]? = some y' := by rw [← hsq.rest _ (by omega), show kp + (j + 1) + 1 = kp + 1 + (j + 1) by omega]; exact hy
              have HX' := Lib.hid hx2
              have HY' := Lib.hid hy2
              have HQ' := Lib.hid (fun (wx : World) (k : All wi wx) => HP.out y' x' (List.mem_of_getElem? hy2) (List.mem_of_getElem? hx2) wx (hwk.trans (Kept.all k)))
              rw [Nat.zero_add, Nat.add_mul] at p0 p1 p2 q0 q1 q2
              rw [Nat.zero_add] at s0 s1 s2
              have HGI := Lib.hid hgi
              clear hsl hgi hv'' h3' hx hy hx2 hy2 hsq hqn
              have f1 : IntKind.i64.wrap (j : Int) = (j : Int) := IntWalk.i64_in _ (by omega)
              have f3 : (0 : Int) ≤ (j : Int) := by omega
              have f4 : (j : Int) < (m : Int) := by omega
              have f5 : (k : Int) < (n : Int) := by omega
              have f6 : (0 : Int) ≤ (j : Int) + 1 := by omega
              have f7 : (j : Int) + 1 < (m : Int) := by omega
              cases he : eq y' x' with
              | true =>
                have HNX := Lib.hid (HSQ.out.drop HX'.out HY'.out he)
                rw [he] at HQ'
                clear he
                go_wp2_with fail
                go_region_held3 (fun w' => w'.cell? ⟨g', ((kp + 1)) * 3 + j * 3, none⟩ = some (.string x'.paper) ∧ w'.cell? ⟨g', ((kp + 1)) * 3 + j * 3 + 1, none⟩ = some (.int .i64 x'.tm) ∧ w'.cell? ⟨g', ((kp + 1)) * 3 + j * 3 + 2, none⟩ = some (.string x'.words) ∧ w'.cell? ⟨g', ((kp + 1)) * 3 + ((j + 1)) * 3, none⟩ = some (.string y'.paper) ∧ w'.cell? ⟨g', ((kp + 1)) * 3 + ((j + 1)) * 3 + 1, none⟩ = some (.int .i64 y'.tm) ∧ w'.cell? ⟨g', ((kp + 1)) * 3 + ((j + 1)) * 3 + 2, none⟩ = some (.string y'.words)) (first | go_keep | exact ⟨by assumption, by assumption, by assumption, by assumption, by assumption, by assumption⟩) (first | (go_at_call 144; refine (HQ'.out _ (by repeat (first | exact Kept.refl _ _ | refine Kept.then_drew ?_ | refine Kept.then_drewN ?_ _ | refine Kept.then_alloc ?_ _))).mono ?_; rintro e wq ⟨rfl, hq⟩; have hp1 : All wi wq := Kept.trans (by repeat (first | exact Kept.refl _ _ | refine Kept.then_drew ?_ | refine Kept.then_drewN ?_ _ | refine Kept.then_alloc ?_ _)) hq; have ap0 := hp1.cell p0 trivial; have ap1 := hp1.cell p1 trivial; have ap2 := hp1.cell p2 trivial; have aq0 := hp1.cell q0 trivial; have aq1 := hp1.cell q1 trivial; have aq2 := hp1.cell q2 trivial))
                go_wp2_with fail
                go_roundw
                case rel => exact ⟨k, j + 1 + 1, rfl, by go_num, hk1', by omega, by omega, qs, HNX.out, hacc.keepAll RReply.ok hp1, hwk.trans (Kept.all hp1)⟩
                case measure => simp [intOf]; omega
              | false =>
                have HNX := Lib.hid (HSQ.out.keep HX'.out HY'.out he)
                rw [he] at HQ'
                clear he
                go_wp2_with fail
                go_region_held3 (fun w' => w'.cell? ⟨g', ((kp + 1)) * 3 + j * 3, none⟩ = some (.string x'.paper) ∧ w'.cell? ⟨g', ((kp + 1)) * 3 + j * 3 + 1, none⟩ = some (.int .i64 x'.tm) ∧ w'.cell? ⟨g', ((kp + 1)) * 3 + j * 3 + 2, none⟩ = some (.string x'.words) ∧ w'.cell? ⟨g', ((kp + 1)) * 3 + ((j + 1)) * 3, none⟩ = some (.string y'.paper) ∧ w'.cell? ⟨g', ((kp + 1)) * 3 + ((j + 1)) * 3 + 1, none⟩ = some (.int .i64 y'.tm) ∧ w'.cell? ⟨g', ((kp + 1)) * 3 + ((j + 1)) * 3 + 2, none⟩ = some (.string y'.words)) (first | go_keep | exact ⟨by assumption, by assumption, by assumption, by assumption, by assumption, by assumption⟩) (first | (go_at_call 144; refine (HQ'.out _ (by repeat (first | exact Kept.refl _ _ | refine Kept.then_drew ?_ | refine Kept.then_drewN ?_ _ | refine Kept.then_alloc ?_ _))).mono ?_; rintro e wq ⟨rfl, hq⟩; have hp1 : All wi wq := Kept.trans (by repeat (first | exact Kept.refl _ _ | refine Kept.then_drew ?_ | refine Kept.then_drewN ?_ _ | refine Kept.then_alloc ?_ _)) hq; have ap0 := hp1.cell p0 trivial; have ap1 := hp1.cell p1 trivial; have ap2 := hp1.cell p2 trivial; have aq0 := hp1.cell q0 trivial; have aq1 := hp1.cell q1 trivial; have aq2 := hp1.cell q2 trivial))
                have hg2 := hp1.heap HGI.out trivial
                have z0 := frozen_at (i := k * 3) hg2
                have z1 := frozen_at (i := k * 3 + 1) hg2
                have z2 := frozen_at (i := k * 3 + 2) hg2
                have s0 := hp1.cell s0 trivial
                have s1 := hp1.cell s1 trivial
                have s2 := hp1.cell s2 trivial
                clear hg2
                go_wp2_with fail
                go_roundw
                case rel => exact ⟨k + 1, j + 1 + 1, by go_num, by go_num, by omega, by omega, by omega, qs.set k y', HNX.out, by have hh := Acc.setFlat flatReply (hacc.keepAll RReply.ok hp1) k hkn y' hS; exact hh, (hwk.trans (Kept.all hp1)).trans (kept_setCellsF (F := fun k => k ≠ g') g' (by simp) (encRep y') wq (k * 3))⟩
                case measure => simp [intOf]; omega
            · have hdk2 : decide ((k2 : Int) < (m : Int)) = false := by simp; omega
              have hnk : 0 < n - k := by omega
              have hle2 : k * 3 + (n - k) * 3 ≤ cap'' * 3 := by rw [← Nat.add_mul]; exact Nat.mul_le_mul_right _ (by omega)
              obtain ⟨zs, hzs⟩ : ∃ zs, zs = (Builtin.zeroCells (.agg #[.string ⟨#[]⟩, .int .i64 0, .string ⟨#[]⟩] : Value).cells (n - k)).toList := ⟨_, rfl⟩
              have hzl : zs.length = (n - k) * 3 := by rw [hzs]; simp [Builtin.zeroCells, Value.cells]
              have hclr : ∀ ty, (Builtin.clear_ #[68] ty #[.slice (some ⟨g', k * 3, none⟩) (n - k) (cap'' - k)]).run Tryz.prog wi = .ok (.tuple #[]) (wi.setCells g' (k * 3) zs) := fun ty => by
                rw [hzs]
                refine run_clear_flat wi _ _ ty (.agg #[.string ⟨#[]⟩, .int .i64 0, .string ⟨#[]⟩]) Tryz.underlying68 Tryz.zeroValue79 g' _ (n - k) (cap'' - k) (by omega) (fun u hu => ?_) (fun t ht => ?_) (fun t ht => frozen_at hgi)
                · obtain ⟨t, ht, rfl⟩ := List.getElem_of_mem hu
                  simp [Builtin.zeroCells, Value.cells]
                  have h5 : t % 3 < 3 := Nat.mod_lt _ (by decide)
                  generalize t % 3 = m at *
                  rcases m with _ | m
                  · rfl
                  rcases m with _ | m
                  · rfl
                  rcases m with _ | m
                  · rfl
                  omega
                · have hzl2 : (Builtin.zeroCells (.agg #[.string ⟨#[]⟩, .int .i64 0, .string ⟨#[]⟩] : Value).cells (n - k)).size = (n - k) * 3 := by simp [Builtin.zeroCells, Value.cells]
                  have ht2 : k * 3 + t < cur'.size := by rw [h3']; omega
                  simp [World.cell?, hgi, ht2]
              have hacc9 := Acc.cutFlat flatReply hacc k hkn zs hzl
              have hk9 : Kept (fun i => i ≠ g') w (wi.setCells g' (k * 3) zs) := hwk.trans (kept_setCellsF g' (by simp) _ _ _)
              have HD := Lib.hid (hsq.done (by have := HN.out; have := HM.out; omega))
              have hil : (compL eq xs).length = k := by rw [← HD.out]; simp; omega
              have HIL := Lib.hid hil
              rw [HD.out] at hacc9
              have f5 : (k : Int) < (n : Int) := by omega
              clear hil hsq hsl hacc hwk hv'' hgi h3' hqn hzs hzl hle2
              generalize wi.setCells g' (k * 3) zs = w9 at *
              go_wp2_with fail
              go_ret
              exact ⟨some ⟨g', 0, none⟩, cap'', by rw [HIL.out]; rfl, by rw [HIL.out]; exact hacc9, hk9.mono (fun i hi e => hi (by rw [e]; rfl)), rfl⟩
      · have hdk : decide ((k : Int) < (n : Int)) = false := by simp; omega
        have HE := Lib.hid (show compL eq xs = xs by have := HCO.out; rw [List.take_of_length_le (by have := HN.out; omega)] at this; exact this)
        go_wp2_with fail
        go_ret
        exact ⟨some ⟨g0, 0, none⟩, cap, by rw [HE.out, ← HN.out]; rfl, by rw [HE.out, ← HN.out]; exact h.keepAll RReply.ok hwr, Kept.all hwr, by rw [HE.out, ← HN.out]⟩

set_option maxHeartbeats 800000 in
theorem tidy1Reply_any (cf : Rep3 → Rep3 → Int) (cb : Nat) (g : FuncId) (caps : Array Value) (eg : ∀ args w, (callFunc g args).run Tryz.prog w = .ok (.enter g args) w) (hc : ∀ x y wx, Calls Tryz.prog g (#[.agg #[.string x.paper, .int .i64 x.tm, .string x.words], .agg #[.string y.paper, .int .i64 y.tm, .string y.words]] ++ caps) wx fun e w' => e = .returned (.int .i64 (cf x y)) ∧ ∃ q os, w' = grow (wx.drewN q) os)
    (x y : Rep3) (w : World) (hb : w.cell? ⟨cb, 0, none⟩ = some (.func (.func g) #[] caps)) :
    Calls Tryz.prog 144 #[.agg #[.string x.paper, .int .i64 x.tm, .string x.words], .agg #[.string y.paper, .int .i64 y.tm, .string y.words], .pointer (some ⟨cb, 0, none⟩)] w fun e w' => e = .returned (.bool (decide (cf x y = 0))) ∧ All w w' := by
  have hk : All w ((w.alloc (.cells #[.string x.paper, .int .i64 x.tm, .string x.words] 79)).alloc (.cells #[.string y.paper, .int .i64 y.tm, .string y.words] 79)) := (Kept.alloc _ _ _).then_alloc _
  have HC := Lib.hid hc
  have hb2 := hk.cell hb trivial
  clear hc hb
  go_enter Tryz.func144, Tryz.ntmps144
  go_wp2_with fail
  refine (HC.out x y _).mono ?_
  rintro e w' ⟨rfl, q, os, rfl⟩
  go_wp2_with fail
  go_ret
  exact ⟨by first | rfl | simp, hk.trans (kept_grow' _ _ _)⟩

/-- What tidy leaves. -/
def TidyReply (B : Nat) (v : Value) (cf : Rep3 → Rep3 → Int) (xs : List Rep3) (w : World) (e : Ending) (w' : World) : Prop :=
  ∃ p c ys, e = .returned (.slice p ys.length c) ∧ IsTidy cf xs ys ∧ ys.length ≤ xs.length ∧ Acc RReply 3 79 (fun _ => False) B w' (.slice p ys.length c) ys ∧ Kept (fun k => v.ownBlock ≠ some k) w w'
set_option maxHeartbeats 1600000 in
theorem tidyReply_any {B : Nat} (cf : Rep3 → Rep3 → Int) (hO : IsCmp cf) (g : FuncId) (caps : Array Value) (eg : ∀ args w, (callFunc g args).run Tryz.prog w = .ok (.enter g args) w) (hc : ∀ x y wx, Calls Tryz.prog g (#[.agg #[.string x.paper, .int .i64 x.tm, .string x.words], .agg #[.string y.paper, .int .i64 y.tm, .string y.words]] ++ caps) wx fun e w' => e = .returned (.int .i64 (cf x y)) ∧ ∃ q os, w' = grow (wx.drewN q) os)
    (v : Value) (xs : List Rep3) (w : World) (h : Acc RReply 3 79 (fun _ => False) B w v xs) (hl : xs.length ≤ 1000000) :
    Calls Tryz.prog 88 #[v, .func (.func g) #[] caps] w (TidyReply B v cf xs w) := by
  have hk1 : All w (w.alloc (.cells #[.func (.func g) #[] caps] 139)) := Kept.alloc _ _ _
  have hblk := heap_at w (.cells #[.func (.func g) #[] caps] 139) _ rfl
  have HC := Lib.hid (fun wx (k : Kept (fun k => v.ownBlock ≠ some k) (w.alloc (.cells #[.func (.func g) #[] caps] 139)) wx) => k.cell (cell_at (i := 0) hblk rfl) (fun e => by have := (h.lt _ e).2; dsimp only at this; omega))
  have hS := Lib.hid (sortReply_any cf hO g caps eg v xs (w.alloc (.cells #[.func (.func g) #[] caps] 139)) (h.keepAll RReply.ok hk1) hl (fun g0 _ m os dk _ x y => hc x y _))
  have HT := Lib.hid (fun x y wx (hb : wx.cell? ⟨w.heap.size, 0, none⟩ = some (.func (.func g) #[] caps)) => tidy1Reply_any cf w.heap.size g caps eg hc x y wx hb)
  have et : ∀ args w, (callFunc 144 args).run Tryz.prog w = .ok (.enter 144 args) w := enters_of Tryz.func144 (by kernel_rfl) rfl
  obtain ⟨a, cap, rfl, -⟩ := h.form
  obtain ⟨bb, hbb⟩ : ∃ bb, bb = w.heap.size := ⟨_, rfl⟩
  have Hbb := Lib.hid hbb
  rw [← hbb] at HC HT
  obtain ⟨n, hn⟩ : ∃ n, n = xs.length := ⟨_, rfl⟩
  have HN := Lib.hid hn
  rw [← hn] at hS HC hl ⊢
  have h0 := HC.out _ (Kept.refl _ _)
  clear h hblk hc hbb hn
  go_enter Tryz.func88, Tryz.ntmps88
  go_wp2_with fail
  rw [← Hbb.out]
  generalize w.alloc (.cells #[.func (.func g) #[] caps] 139) = w1 at *
  refine hS.out.mono ?_
  rintro e w2 ⟨rfl, qs, hperm, hsort, hacc, hgr⟩
  have hk2 : Kept (fun k => (Value.slice a n cap).ownBlock ≠ some k) w1 w2 := (Kept.refl _ _).grown hgr (fun k hk => Or.inr (fun h => h hk))
  have hql := hperm.length_eq
  have HCM := Lib.hid (compactFReply_any bb (fun a b => decide (cf a b = 0)) _ qs w2 hacc (by have := HN.out; omega) (fun x _ y _ wx hk => HT.out x y wx (HC.out wx (hk2.trans hk))))
  have HTI := Lib.hid ((IsTidy.of_sorted hO hsort).perm hperm)
  have HLE := Lib.hid (compL_len (fun a b => decide (cf a b = 0)) qs)
  have HQL := Lib.hid hql
  clear hperm hsort hacc hgr hql h0
  go_wp2_with fail
  refine HCM.out.mono ?_
  rintro e w3 ⟨p3, c3, rfl, hacc3, hk3, -⟩
  obtain ⟨ys, hys⟩ : ∃ ys, ys = compL (fun a b => decide (cf a b = 0)) qs := ⟨_, rfl⟩
  rw [← hys] at hacc3 HTI HLE ⊢
  have HA := Lib.hid hacc3
  clear hacc3 hys
  obtain ⟨m, hm⟩ : ∃ m, m = ys.length := ⟨_, rfl⟩
  have HM := Lib.hid hm
  rw [← hm]
  clear hm
  go_wp2_with fail
  go_ret
  exact ⟨p3, c3, ys, by rw [HM.out]; rfl, HTI.out, by have := HLE.out; have := HQL.out; omega, HA.out, (Kept.all hk1).trans (hk2.trans hk3)⟩
end Go.Proofs.YtllkemadaemjeaaGreatDoor
