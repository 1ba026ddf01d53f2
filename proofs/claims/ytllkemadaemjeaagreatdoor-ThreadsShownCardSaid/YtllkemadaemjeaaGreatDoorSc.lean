/- slices.Compact of pairs, walked. -/
import Derived.Test.YtllkemadaemjeaaGreatDoorSb
namespace Go.Proofs.YtllkemadaemjeaaGreatDoor
open Go.RowKit

def CompactPost (B : Nat) (v : Value) (ps : List Pair2) (w : World) (e : Ending) (w' : World) : Prop :=
  ∃ v' qs, e = .returned v' ∧ qs.length ≤ ps.length ∧ Acc RPair 2 101 (fun _ => False) B w' v' qs ∧ Kept (fun k => v.ownBlock ≠ some k) w w' ∧ v'.ownBlock = v.ownBlock
theorem bytes_ne {a b : ByteArray} (h : a ≠ b) : (a.toList == b.toList) = false := by
  rw [beq_eq_false_iff_ne]
  intro e
  exact h (by rw [tl_data, tl_data] at e; exact Go.WideShapes.bytes_inj e)

set_option maxRecDepth 100000 in
set_option maxHeartbeats 6400000 in
theorem compactP_any {B : Nat} (v : Value) (ps : List Pair2) (w : World) (h : Acc RPair 2 101 (fun _ => False) B w v ps) (hl : ps.length ≤ 1000000) :
    Calls Tryz.prog 101 #[v] w (CompactPost B v ps w) := by
  obtain ⟨a, cap, rfl, hcap⟩ := h.form
  by_cases h2 : ps.length < 2
  · obtain ⟨n, hn⟩ : ∃ n, n = ps.length := ⟨_, rfl⟩
    have HN := Lib.hid hn
    rw [← hn] at h h2 ⊢
    have hd : decide ((n : Int) < 2) = true := by simp; omega
    clear hn
    go_enter Tryz.func101, Tryz.ntmps101
    go_wp2_with fail
    go_ret
    exact ⟨_, ps, rfl, Nat.le_refl _, h, Kept.refl _ _, rfl⟩
  · obtain ⟨g, cap', cur, hv, hb, hg, h1, hm, h3⟩ := h.pairRow (by omega)
    cases hv
    obtain ⟨n, hn⟩ : ∃ n, n = ps.length := ⟨_, rfl⟩
    have HN := Lib.hid hn
    rw [← hn] at h h2 h1 hl ⊢
    have hd : decide ((n : Int) < 2) = false := by simp; omega
    have hm' : (cap : Int) ≤ 9223372036854775807 := by unfold maxLen at hm; omega
    clear hn hcap
    go_enter Tryz.func101, Tryz.ntmps101
    go_wp2_with fail
    go_loopw [3] (fun i wr => ∃ k : Nat, 1 ≤ k ∧ k ≤ n ∧ i = .int .i64 k ∧ All w wr) (fun i _ => n - (intOf i).toNat)
    case atStart => exact ⟨1, by omega, by omega, rfl, Kept.refl _ _⟩
    case round =>
      obtain ⟨k, hk1, hk2, rfl, hwr⟩ := hrel
      obtain ⟨wo, rfl⟩ : ∃ wo : World, wo = wr := ⟨_, rfl⟩
      by_cases hlt : k < n
      · obtain ⟨kp, rfl⟩ : ∃ kp, k = kp + 1 := ⟨k - 1, by omega⟩
        obtain ⟨a', c', hv', hsl⟩ := (h.keepAll RPair.ok hwr).sl RPair.ok (by decide) (G := fun _ => True) (fun _ h => h.elim) (fun _ _ => trivial)
        have hps := HN.out
        rw [← hps] at hv' hsl
        cases hv'
        obtain ⟨b1, o1, x, ha1, -, p0, p1, hx, -, -⟩ := hsl.atPair (k := kp) (by omega)
        cases ha1
        obtain ⟨b2, o2, y, ha2, -, q0, q1, hy, -, -⟩ := hsl.atPair (k := kp + 1) (by omega)
        cases ha2
        rw [Nat.zero_add] at p0 p1 q0 q1
        clear hps hsl hx hy
        have f1 : IntKind.i64.wrap (kp : Int) = (kp : Int) := IntWalk.i64_in _ (by omega)
        have f3 : (0 : Int) ≤ (kp : Int) := by omega
        have f4 : (kp : Int) < (n : Int) := by omega
        have hdk1 : decide ((kp : Int) + 1 < (n : Int)) = true := by simp; omega
        by_cases hpa : y.paper = x.paper
        · by_cases hpe : y.person = x.person
          · have d1 : (y.paper.toList == x.paper.toList) = true := by simp [hpa]
            have d2 : (y.person.toList == x.person.toList) = true := by simp [hpe]
            go_wp2_with fail
            go_quiet (fail)
            go_wp2_with fail
            clear p0 p1 q0 q1 d1 d2 hpa hpe f1 f3 f4
            obtain ⟨m, hmm⟩ : ∃ m, m = n - (kp + 1) := ⟨_, rfl⟩
            rw [← hmm]
            have HM := Lib.hid (show m + (kp + 1) = n by omega)
            have hm1 : 1 ≤ m := by omega
            have hmn : m < n := by omega
            have hacc0 := h.keepAll RPair.ok (hwr.then_drewN nq)
            have hk0 : Kept (fun i => i ≠ g) w (wo.drewN nq) := Kept.all (hwr.then_drewN nq)
            clear hmm
            generalize wo.drewN nq = wd at *
            go_loopw [3, 5] (fun i j wr => ∃ k k2 : Nat, i = .int .i64 k ∧ j = .int .i64 k2 ∧ kp + 1 ≤ k ∧ 1 ≤ k2 ∧ k < kp + 1 + k2 ∧ k2 ≤ m ∧ ∃ qs : List Pair2, qs.length = n ∧ Acc RPair 2 101 (fun _ => False) B wr (.slice (some ⟨g, 0, none⟩) n cap) qs ∧ Kept (fun i => i ≠ g) w wr) (fun _ j _ => m - (intOf j).toNat)
            case atStart => exact ⟨kp + 1, 1, rfl, rfl, by omega, by omega, by omega, by omega, ps, HN.out.symm, hacc0, hk0⟩
            case round =>
              clear hacc0 hk0 hwr
              obtain ⟨k, k2, rfl, rfl, hk1', hk21, hkk, hk2m, qs, hql, hacc, hwk⟩ := hrel
              obtain ⟨wi, rfl⟩ : ∃ wi : World, wi = wr := ⟨_, rfl⟩
              have hkn : k < n := by have := HM.out; omega
              have hkc : k < cap := by omega
              obtain ⟨a', c', hv', hsl⟩ := hacc.sl RPair.ok (by decide) (G := fun _ => True) (fun _ h => h.elim) (fun _ _ => trivial)
              rw [hql] at hv' hsl
              cases hv'
              obtain ⟨g', cap'', cur', hv'', -, hgi, -, -, h3'⟩ := hacc.pairRow (by omega)
              have hcg : cap'' = cap ∧ g' = g := by cases hv''; exact ⟨rfl, rfl⟩
              obtain ⟨hc1, hc2⟩ := hcg
              subst hc1
              subst hc2
              by_cases hlt2 : k2 < m
              · obtain ⟨j, rfl⟩ : ∃ j, k2 = j + 1 := ⟨k2 - 1, by omega⟩
                obtain ⟨b1, o1, x', ha1, -, p0, p1, -, -, -⟩ := hsl.atPair (k := kp + 1 + j) (by have := HM.out; omega)
                cases ha1
                obtain ⟨b2, o2, y', ha2, -, q0, q1, -, -, -⟩ := hsl.atPair (k := kp + 1 + (j + 1)) (by have := HM.out; omega)
                cases ha2
                obtain ⟨b3, o3, z', ha3, -, s0, s1, -, -, -⟩ := hsl.atPair (k := k) hkn
                cases ha3
                rw [Nat.zero_add, Nat.add_mul] at p0 p1 q0 q1
                rw [Nat.zero_add] at s0 s1
                have z0 := frozen_at (i := k * 2) hgi
                have z1 := frozen_at (i := k * 2 + 1) hgi
                clear hsl hgi hv'' h3'
                have f1 : IntKind.i64.wrap (j : Int) = (j : Int) := IntWalk.i64_in _ (by omega)
                have f3 : (0 : Int) ≤ (j : Int) := by omega
                have f4 : (j : Int) < (m : Int) := by omega
                have f5 : (k : Int) < (n : Int) := by omega
                by_cases hpa : y'.paper = x'.paper
                · by_cases hpe : y'.person = x'.person
                  · have d1 : (y'.paper.toList == x'.paper.toList) = true := by simp [hpa]
                    have d2 : (y'.person.toList == x'.person.toList) = true := by simp [hpe]
                    clear hpa hpe
                    go_wp2_with fail
                    go_quiet (fail)
                    go_wp2_with fail
                    go_roundw
                    case rel => exact ⟨k, j + 1 + 1, rfl, by go_num, hk1', by omega, by omega, by omega, qs, hql, hacc.keepAll RPair.ok (Kept.drewN _ _ _), hwk.then_drewN _⟩
                    case measure => simp [intOf]; omega
                  · have d1 : (y'.paper.toList == x'.paper.toList) = true := by simp [hpa]
                    have d2 := bytes_ne hpe
                    clear hpa hpe
                    go_wp2_with fail
                    go_quiet (fail)
                    go_wp2_with fail
                    go_roundw
                    case rel => exact ⟨k + 1, j + 1 + 1, by go_num, by go_num, by omega, by omega, by omega, by omega, qs.set k y', by simpa using hql, (hacc.keepAll RPair.ok (Kept.drewN _ _ _)).setPair (by omega) k hkn y', ((hwk.then_drewN _).then_setCell _ _ (by simp)).then_setCell _ _ (by simp)⟩
                    case measure => simp [intOf]; omega
                · have d1 := bytes_ne hpa
                  clear hpa
                  go_wp2_with fail
                  go_quiet (fail)
                  go_wp2_with fail
                  go_roundw
                  case rel => exact ⟨k + 1, j + 1 + 1, by go_num, by go_num, by omega, by omega, by omega, by omega, qs.set k y', by simpa using hql, (hacc.keepAll RPair.ok (Kept.drewN _ _ _)).setPair (by omega) k hkn y', ((hwk.then_drewN _).then_setCell _ _ (by simp)).then_setCell _ _ (by simp)⟩
                  case measure => simp [intOf]; omega
              · have hdk2 : decide ((k2 : Int) < (m : Int)) = false := by simp; omega
                have hnk : 0 < n - k := by omega
                have hle2 : n * 2 ≤ cap'' * 2 := Nat.mul_le_mul_right _ h1
                have hclr : ∀ ty, (Builtin.clear_ #[28] ty #[.slice (some ⟨g', k * 2, none⟩) (n - k) (cap'' - k)]).run Tryz.prog wi = .ok (.tuple #[]) (wi.setCells g' (k * 2) (List.replicate ((n - k) * 2) (.string ⟨#[]⟩))) := fun ty =>
                  run_clear_pairs wi _ _ ty Tryz.underlying28 Tryz.zeroValue101 g' (k * 2) (n - k) (cap'' - k) hnk (fun j hj => by
                    have hlt3 : k * 2 + j < cur'.size := by rw [h3']; omega
                    simp [World.cell?, hgi, hlt3]) (fun j hj => frozen_at hgi)
                obtain ⟨cur9, hg9, hs9, hc9⟩ := heap_setCells (List.replicate ((n - k) * 2) (.string ⟨#[]⟩)) wi (k * 2) cur' hgi
                have hacc9 : Acc RPair 2 101 (fun _ => False) B (wi.setCells g' (k * 2) (List.replicate ((n - k) * 2) (.string ⟨#[]⟩))) (.slice (some ⟨g', 0, none⟩) k cap'') (qs.take k) :=
                  Acc.pairCells hg9 hb (by simp; omega) (by omega) hm (by rw [hs9]; exact h3') (fun i x hx => by
                    have hik : i < k := by
                      obtain ⟨hh, -⟩ := List.getElem?_eq_some_iff.1 hx
                      simp at hh
                      omega
                    rw [List.getElem?_take_of_lt hik] at hx
                    have := hacc.pairAt hgi hx
                    rw [hc9 _ (by omega), hc9 _ (by omega)]
                    exact this)
                have hk9 : Kept (fun i => i ≠ g') w (wi.setCells g' (k * 2) (List.replicate ((n - k) * 2) (.string ⟨#[]⟩))) := hwk.trans (kept_setCells g' (by simp) _ _ _)
                have hql9 : (qs.take k).length ≤ ps.length := by have := HN.out; simp; omega
                have f5 : (k : Int) < (n : Int) := by omega
                clear hg9 hs9 hc9 hsl hgi hv'' h3' hacc hwk
                generalize wi.setCells g' (k * 2) (List.replicate ((n - k) * 2) (.string ⟨#[]⟩)) = w9 at *
                go_wp2_with fail
                go_ret
                exact ⟨_, qs.take k, rfl, hql9, hacc9, hk9.mono (fun i hi e => hi (by simp [Value.ownBlock, e])), rfl⟩
          · have d1 : (y.paper.toList == x.paper.toList) = true := by simp [hpa]
            have d2 := bytes_ne hpe
            clear hpa hpe
            go_wp2_with fail
            go_quiet (fail)
            go_wp2_with fail
            go_roundw
            case rel => exact ⟨kp + 1 + 1, by omega, by omega, by go_num, hwr.then_drewN _⟩
            case measure => simp [intOf]; omega
        · have d1 := bytes_ne hpa
          clear hpa
          go_wp2_with fail
          go_quiet (fail)
          go_wp2_with fail
          go_roundw
          case rel => exact ⟨kp + 1 + 1, by omega, by omega, by go_num, hwr.then_drewN _⟩
          case measure => simp [intOf]; omega
      · have hdk : decide ((k : Int) < (n : Int)) = false := by simp; omega
        go_wp2_with fail
        go_ret
        exact ⟨_, ps, rfl, Nat.le_refl _, h.keepAll RPair.ok hwr, Kept.all hwr, rfl⟩
end Go.Proofs.YtllkemadaemjeaaGreatDoor
