/- slices of posts: IndexFunc, ContainsFunc, Clone. -/
import Derived.Test.YtllkemadaemjeaaGreatDoorDp
import Derived.Test.YtllkemadaemjeaaGreatDoorYa
import Derived.Test.YtllkemadaemjeaaGreatDoorZc
namespace Go.Proofs.YtllkemadaemjeaaGreatDoor
open Go.RowKit


set_option maxHeartbeats 800000 in
theorem indexFuncPost_any (g : FuncId) (caps : Array Value) (eg : ∀ args w, (callFunc g args).run Tryz.prog w = .ok (.enter g args) w) (p : Post6 → Bool) (G : Nat → Prop)
    (a : Option Addr) (len cap : Nat) (ss : List Post6) (w : World) (hs : Sl RPost 6 (fun _ => True) w a len ss) (hl : len ≤ 1000000) (hp : AnswersG Tryz.prog g caps G w (fun y : Post6 => Value.agg (encPost y).toArray) p ss) :
    Calls Tryz.prog 149 #[.slice a len cap, .func (.func g) #[] caps] w fun e w' => e = .returned (.int .i64 (findA p 0 ss)) ∧ All w w' := by
  have Hlen := Lib.hid hs.len
  have HP := Lib.hid hp
  clear hp
  go_enter Tryz.func149, Tryz.ntmps149
  go_wp2
  go_loopw [5, 8] (fun _ i wr => ∃ k : Nat, k ≤ len ∧ i = .int .i64 k ∧ (ss.take k).any p = false ∧ All w wr) (fun _ i _ => len - (intOf i).toNat)
  case atStart => exact ⟨0, Nat.zero_le _, rfl, by simp, Kept.refl _ _⟩
  case round =>
    obtain ⟨k, hk, rfl, hnot, hall⟩ := hrel
    have Hnot := Lib.hid hnot
    clear hnot
    by_cases hlt : k < len
    · obtain ⟨b, off, y, ha, -, c0, c1, c2, c3, c4, c5, hS, hy, -⟩ := (hs.keep RPost.ok hall).atPost hlt
      have Hy := Lib.hid hy
      have hmem := List.mem_of_getElem? hy
      clear hy
      subst ha
      clear hs
      cases hpy : p y with
      | true =>
        have Hfin := Lib.hid (findA_at Hnot.out Hy.out hpy)
        go_wp2_with fail
        refine (HP.out y hmem _ (Kept.all hall)).mono ?_
        rintro e w' ⟨rfl, hw⟩
        rw [hpy]
        go_wp2_with fail
        go_ret
        exact ⟨ret_int' Hfin.out.symm, hall.trans hw⟩
      | false =>
        have Hn := Lib.hid (anyA_next Hnot.out Hy.out hpy)
        go_wp2_with fail
        refine (HP.out y hmem _ (Kept.all hall)).mono ?_
        rintro e w' ⟨rfl, hw⟩
        rw [hpy]
        go_wp2_with fail
        go_roundw
        case rel => exact ⟨k + 1, by omega, by go_num, Hn.out, hall.trans hw⟩
        case measure => simp [intOf]; omega
    · have hd : decide ((k : Int) < (len : Int)) = false := by simp; omega
      have Hfin := Lib.hid (findA_end Hnot.out (by have := Hlen.out; omega))
      go_wp2
      go_ret
      exact ⟨ret_int' Hfin.out.symm, hall⟩


theorem containsFuncPost_any (g : FuncId) (caps : Array Value) (eg : ∀ args w, (callFunc g args).run Tryz.prog w = .ok (.enter g args) w) (p : Post6 → Bool) (G : Nat → Prop)
    (a : Option Addr) (len cap : Nat) (ss : List Post6) (w : World) (hs : Sl RPost 6 (fun _ => True) w a len ss) (hl : len ≤ 1000000) (hp : AnswersG Tryz.prog g caps G w (fun y : Post6 => Value.agg (encPost y).toArray) p ss) :
    Calls Tryz.prog 97 #[.slice a len cap, .func (.func g) #[] caps] w fun e w' => e = .returned (.bool (ss.any p)) ∧ All w w' := by
  have hI := Lib.hid (indexFuncPost_any g caps eg p G a len cap ss w hs hl hp)
  clear hp
  cases hx : ss.any p with
  | true =>
    have h0 := findA_nonneg (k := 0) hx
    clear hx
    go_enter Tryz.func97, Tryz.ntmps97
    go_wp2_with fail
    refine hI.out.mono ?_
    rintro e w' ⟨rfl, hw⟩
    go_wp2
    go_ret
    exact ⟨rfl, hw⟩
  | false =>
    have h0 := findA_neg (k := 0) hx
    clear hx
    go_enter Tryz.func97, Tryz.ntmps97
    go_wp2_with fail
    refine hI.out.mono ?_
    rintro e w' ⟨rfl, hw⟩
    rw [h0]
    go_wp2
    go_ret
    exact ⟨rfl, hw⟩


set_option maxHeartbeats 800000 in
theorem clonePost_any (a : Option Addr) (len cap : Nat) (xs : List Post6) (w : World) (hs : Sl RPost 6 (fun _ => True) w a len xs) (hl : len ≤ 1000000) :
    Calls Tryz.prog 68 #[.slice a len cap] w (CopyG RPost 6 58 xs w) := by
  have Hlen := Lib.hid hs.len
  cases a with
  | none =>
    have h0 : len = 0 := by
      rcases Nat.eq_zero_or_pos len with h | h
      · exact h
      · obtain ⟨b, off, ha, -⟩ := hs.2 h
        cases ha
    have hx : xs = [] := List.eq_nil_of_length_eq_zero (by have := Hlen.out; omega)
    subst hx
    subst h0
    have hnil := @Lib.run_eql_slice_nil Tryz.prog
    go_enter Tryz.func68, Tryz.ntmps68
    go_wp2_with fail
    go_ret
    exact ⟨_, _, rfl, Acc.nil _ _ _ _ _ _, Kept.refl _ _⟩
  | some ad =>
    have hnil := @Lib.run_eql_slice_nil Tryz.prog
    have hsl : Sl RPost 6 (fun k => k < w.heap.size) w (some ad) len xs := (hs.live RPost.ok (by decide)).mono RPost.ok (fun k hk => hk.2)
    go_enter Tryz.func68, Tryz.ntmps68
    go_wp2_with (at_builtin; refine wp_cloneG RPost.ok _ rfl _ _ 52 rfl 58 (.agg #[.int .i64 0, .int .i64 0, .string ⟨#[]⟩, .string ⟨#[]⟩, .int .i64 0, .string ⟨#[]⟩]) 6 72 Tryz.underlying52 (by kernel_rfl) rfl (by decide) (fun k => k < w.heap.size) w rfl rfl ad len cap xs rfl (hsl.keep RPost.ok (Kept.alloc _ _ _)) (fun _ h => h) (fun vs y hv => by obtain ⟨rfl, -⟩ := (Flat.iff flatPost _ _ _ _).1 hv; exact Flat.one flatPost y) (by omega) (by decide) ?_)
    intro p' c' w2 hacc hw2
    clear hs hsl hnil
    go_wp2_with fail
    go_ret
    exact ⟨_, _, rfl, Acc.flatAny flatPost _ hacc, hw2⟩

end Go.Proofs.YtllkemadaemjeaaGreatDoor
