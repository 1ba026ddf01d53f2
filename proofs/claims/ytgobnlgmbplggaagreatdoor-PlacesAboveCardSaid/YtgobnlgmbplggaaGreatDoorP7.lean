/- Maps of places and persons: parentsOf, keysOf, has; what a map of a list says. -/
import Derived.Test.YtgobnlgmbplggaaGreatDoorMb
import Derived.Test.YtgobnlgmbplggaaGreatDoorWj
import Derived.Test.YtgobnlgmbplggaaGreatDoorZd
import Derived.Test.YtgobnlgmbplggaaGreatDoorProg
import Derived.Test.YtgobnlgmbplggaaGreatDoorSd
namespace Go.Proofs.YtgobnlgmbplggaaGreatDoor
open Go.RowKit

section
variable {α : Type}
/-- The map that a list of keys and values makes. -/
def mapF (key : α → ByteArray) (val : Nat → α → Value) : Nat → List α → (ByteArray → Option Value) → ByteArray → Option Value
  | _, [], m => m
  | i, x :: l, m => mapF key val (i + 1) l (putS m (key x) (val i x))
def mapL (key : α → ByteArray) (val : Nat → α → Value) (l : List α) : ByteArray → Option Value := mapF key val 0 l (fun _ => none)
variable {key : α → ByteArray} {val : Nat → α → Value}
theorem mapF_snoc : ∀ (l : List α) (i : Nat) (m : ByteArray → Option Value) (x : α), mapF key val i (l ++ [x]) m = putS (mapF key val i l m) (key x) (val (i + l.length) x)
  | [], _, _, _ => rfl
  | y :: l, i, m, x => by
    show mapF key val (i + 1) (l ++ [x]) _ = _
    rw [mapF_snoc l (i + 1) _ x, List.length_cons, show i + 1 + l.length = i + (l.length + 1) by omega]; rfl
theorem mapL_succ {l : List α} {k : Nat} {x : α} (h : l[k]? = some x) : putS (mapL key val (l.take k)) (key x) (val k x) = mapL key val (l.take (k + 1)) := by
  have hk := (List.getElem?_eq_some_iff.1 h).1
  rw [List.take_add_one, h, Option.toList_some]
  unfold mapL
  rw [mapF_snoc, List.length_take, Nat.zero_add, Nat.min_eq_left (by omega)]
theorem mapF_miss : ∀ (l : List α) (i : Nat) (m : ByteArray → Option Value) (s : ByteArray), s ∉ l.map key → mapF key val i l m s = m s
  | [], _, _, _, _ => rfl
  | x :: l, i, m, s, h => by
    rw [List.map_cons, List.mem_cons, not_or] at h
    show mapF key val (i + 1) l _ s = _
    rw [mapF_miss l (i + 1) _ s h.2, putS_other h.1]
theorem mapF_hit : ∀ (l : List α) (i : Nat) (m : ByteArray → Option Value), NoTwice (l.map key) → ∀ (k : Nat) (x : α), l[k]? = some x → mapF key val i l m (key x) = some (val (i + k) x)
  | [], _, _, _, _, _, h => by simp at h
  | y :: l, i, m, hn, k, x, h => by
    rw [List.map_cons] at hn
    obtain ⟨h1, h2⟩ := List.pairwise_cons.1 hn
    show mapF key val (i + 1) l _ (key x) = _
    rcases k with _ | k
    · have e : y = x := by simpa using h
      subst e
      rw [mapF_miss l (i + 1) _ (key y) (fun hy => h1 _ hy rfl), putS_same]; rfl
    · have e : l[k]? = some x := by simpa using h
      rw [mapF_hit l (i + 1) _ h2 k x e, show i + 1 + k = i + (k + 1) by omega]
/-- Is there one with the key? Where lists are long enough. -/
theorem mapL_find {l : List α} (hn : NoTwice (l.map key)) (s : ByteArray) : mapL key val l s = match l.findIdx? (fun x => decide (key x = s)) with | some k => (l[k]?).map (val k) | none => none := by
  cases hf : l.findIdx? (fun x => decide (key x = s)) with
  | none =>
    refine mapF_miss l 0 _ s fun h => ?_
    obtain ⟨x, hx, he⟩ := List.mem_map.1 h
    have := List.findIdx?_eq_none_iff.1 hf x hx
    simp [he] at this
  | some k =>
    obtain ⟨hk, hp, -⟩ := List.findIdx?_eq_some_iff_getElem.1 hf
    have hx : l[k]? = some l[k] := List.getElem?_eq_getElem hk
    have he : key l[k] = s := by simpa using hp
    rw [← he, mapL, mapF_hit l 0 _ hn k _ hx]
    simp [hx]
theorem mapL_some {l : List α} (s : ByteArray) : (mapL key val l s).isSome = (l.find? fun x => decide (key x = s)).isSome := by
  have h1 : ∀ (l : List α) (i : Nat) (m : ByteArray → Option Value), (mapF key val i l m s).isSome = ((l.find? fun x => decide (key x = s)).isSome || (m s).isSome) := by
    intro l
    induction l with
    | nil => intro i m; simp [mapF]
    | cons y l ih =>
      intro i m
      show (mapF key val (i + 1) l _ s).isSome = _
      rw [ih]
      by_cases h : key y = s
      · subst h
        rw [putS_same]
        simp
      · rw [putS_other (fun e => h e.symm), List.find?_cons_of_neg (by simpa using h)]
  rw [mapL, h1]; simp
end
/-- The map of parents, the map of persons' places. -/
def upV (l : List Plc) : ByteArray → Option Value := mapL (fun p : Plc => p.key) (fun _ p => .string p.parent) l
def keyV (l : List Per) : ByteArray → Option Value := mapL (fun p : Per => p.key) (fun i _ => .int .i64 (i : Int)) l
theorem upV_some (l : List Plc) (s : ByteArray) : (upV l s).isSome = hasP l s := mapL_some s
theorem keyV_some (l : List Per) (s : ByteArray) : (keyV l s).isSome = hasK l s := mapL_some s
theorem upV_par {l : List Plc} (hn : NoTwice (l.map (·.key))) (s : ByteArray) : (upV l s).getD (.string ⟨#[]⟩) = .string (parL l s) := by
  unfold parL plcAt
  rw [upV, mapL_find hn]
  cases hf : l.findIdx? (fun x => decide (x.key = s)) with
  | none =>
    have h1 : l.find? (fun p => decide (p.key = s)) = none := List.find?_eq_none.2 (fun x hx => by have := List.findIdx?_eq_none_iff.1 hf x hx; simpa using this)
    rw [h1]; rfl
  | some k =>
    obtain ⟨hk, hp, hb⟩ := List.findIdx?_eq_some_iff_getElem.1 hf
    have h1 : l.find? (fun p => decide (p.key = s)) = some l[k] := List.find?_eq_some_iff_getElem.2 ⟨hp, k, hk, rfl, fun j hj => by have := hb j hj; simpa using this⟩
    rw [h1]
    simp [List.getElem?_eq_getElem hk]
set_option maxHeartbeats 1600000 in
theorem parentsOf_any (a : Option Addr) (len cap : Nat) (l : List Plc) (w : World) (hs : Sl RPlc 2 (fun _ => True) w a len l) (hl : len ≤ 100000) :
    Calls Tryz.prog 75 #[.slice a len cap] w fun e w' => ∃ b, e = .returned (.map (some b)) ∧ w.heap.size ≤ b ∧ MapS Tryz.prog 9 w' b len (upV l) ∧ All w w' := by
  have HLEN := Lib.hid hs.len
  have HS := Lib.hid (fun (wx : World) (k : All w wx) => hs.keep RPlc.ok k)
  obtain ⟨mb, hmb⟩ : ∃ b, b = w.heap.size := ⟨_, rfl⟩
  have HMB := Lib.hid hmb
  obtain ⟨w1, hw1⟩ : ∃ z, z = w.alloc (.map #[] 0) := ⟨_, rfl⟩
  have HW1 := Lib.hid hw1
  have hk1 : All w w1 := by rw [hw1]; exact Kept.alloc _ _ _
  have hm1 : MapS Tryz.prog 9 w1 mb 0 (fun _ => none) := by rw [hw1, hmb]; exact MapS.made _ _ _
  have hbs : mb < w1.heap.size := hm1.lt
  have hmm := @run_makeMap Tryz.prog
  have HL1 := Lib.hid hm1
  have HK1 := Lib.hid hk1
  clear hs hw1 hm1 hk1 hmb
  go_enter Tryz.func75, Tryz.ntmps75
  go_wp2_with fail
  simp only [← HMB.out, ← HW1.out]
  go_loopw [9] (fun i wr => ∃ k : Nat, k ≤ len ∧ i = .int .i64 k ∧ MapS Tryz.prog 9 wr mb k (upV (l.take k)) ∧ All w wr) (fun i _ => len - (intOf i).toNat)
  case atStart => exact ⟨0, Nat.zero_le _, rfl, HL1.out, HK1.out⟩
  case round =>
    obtain ⟨k, hk, rfl, hm, hall⟩ := hrel
    obtain ⟨wo, rfl⟩ : ∃ wo : World, wo = wr := ⟨_, rfl⟩
    by_cases hlt : k < len
    · obtain ⟨b, off, x, ha, -, c0, c1, ⟨hz1, hz2⟩, hx, -⟩ := (HS.out _ hall).atPlc hlt
      subst ha
      have HX := Lib.hid hx
      obtain ⟨w9, hput, hm9, hb9⟩ := (hm.keep (Kept.alloc (fun _ => True) wo (.cells #[.string x.key, .string x.parent] 91)) trivial).put Tryz.underlying9 Tryz.underlying116 (by omega) x.key hz1 (.string x.parent)
      have hm10 : MapS Tryz.prog 9 w9 mb (k + 1) (upV (l.take (k + 1))) := by rw [upV, mapL_succ (key := fun p : Plc => p.key) HX.out] at *; exact hm9
      have hk9 : All w w9 := (hall.then_alloc _).trans2 hb9 (fun i hi _ => by have := HMB.out; simp; omega)
      have HM10 := Lib.hid hm10
      clear hx hm hm9 hb9 hm10
      go_wp2_with fail
      go_roundw
      case rel => exact ⟨k + 1, by omega, by go_num, HM10.out, hk9⟩
      case measure => simp [intOf]; omega
    · have hd : decide ((k : Int) < (len : Int)) = false := by simp; omega
      have hm2 := hm.up (show k ≤ len from hk)
      rw [List.take_of_length_le (by have := HLEN.out; omega)] at hm2
      have HM2 := Lib.hid hm2
      clear hm hm2
      go_wp2_with fail
      go_ret
      exact ⟨mb, rfl, by rw [HMB.out]; exact Nat.le_refl _, HM2.out, hall⟩
theorem hasU_any (b n : Nat) (l : List Plc) (s : ByteArray) (w : World) (h : MapS Tryz.prog 9 w b n (upV l)) (hs : s.size ≤ 1000000) :
    Calls Tryz.prog 76 #[.map (some b), .string s] w fun e w' => e = .returned (.bool (hasP l s)) ∧ w' = w := by
  have l1 := h.look_ok Tryz.underlying9 Tryz.underlying116 (Tryz.zeroValue9 _) s hs
  rw [upV_some] at l1
  go_enter Tryz.func76, Tryz.ntmps76
  go_wp2_with fail
  go_ret
  exact ⟨rfl, rfl⟩
end Go.Proofs.YtgobnlgmbplggaaGreatDoor

/- placesFault. -/
namespace Go.Proofs.YtgobnlgmbplggaaGreatDoor
open Go.RowKit

theorem isKeyB_ne {s : ByteArray} (h : isKeyB s = true) : s.size ≠ 0 := by
  have h1 : isKey s := by simpa [isKeyB] using h
  exact Nat.ne_of_gt h1.2.1
section
variable {l : List Plc} {k : Nat} {x : Plc}
theorem plcE_name {p : Option Plc} (h : isKeyB x.key = false) : plcE p x = 5 := by rw [plcE, if_pos h]
theorem plcE_order {y : Plc} (h : isKeyB x.key = true) (h2 : leB x.key y.key = true) : plcE (some y) x = 7 := by rw [plcE, if_neg (by rw [h]; decide), if_pos (show notUp ((some y).map (·.key)) x.key = true from h2)]
theorem plcE_bad {p : Option Plc} (h : isKeyB x.key = true) (h2 : notUp (p.map (·.key)) x.key = false) (h3 : x.parent.size ≠ 0) (h4 : isKeyB x.parent = false) : plcE p x = 5 := by
  rw [plcE, if_neg (by rw [h]; decide), if_neg (by rw [h2]; decide), if_pos ⟨h3, h4⟩]
theorem plcE_ok {p : Option Plc} (h : isKeyB x.key = true) (h2 : notUp (p.map (·.key)) x.key = false) (h3 : x.parent.size = 0 ∨ isKeyB x.parent = true) : plcE p x = 0 := by
  rw [plcE, if_neg (by rw [h]; decide), if_neg (by rw [h2]; decide), if_neg (fun e => h3.elim e.1 (fun h => by rw [h] at e; exact nomatch e.2))]
theorem plc_some {p : Option Plc} (h : plcE p x = 0) : x.key.size ≠ 0 := by
  unfold plcE at h
  split at h; · exact absurd h (by decide)
  rename_i h1
  intro e
  have h2 : isKeyB x.key = true := by simpa using h1
  exact absurd e (isKeyB_ne h2)
theorem plc_ok (h : scanF plcE none l = 0) : PlcOk l := ⟨plc_keys h, fun p hp => by obtain ⟨q, hq⟩ := scan_all l none h p hp; exact plc_some hq⟩
theorem placesF_large (h : 200 < l.length) : placesF l = 2 := by rw [placesF, if_pos h]
theorem placesF_scan {z : Int} (h : ¬ 200 < l.length) (h1 : scanF plcE none l = z) (hz : z ≠ 0) : placesF l = z := by rw [placesF, if_neg h, h1, if_pos hz]
theorem placesF_none (h : ¬ 200 < l.length) (h1 : scanF plcE none l = 0) (h2 : (l.any fun p => decide (p.parent.size ≠ 0) && !hasP l p.parent) = true) : placesF l = 8 := by
  rw [placesF, if_neg h, h1, if_neg (by decide), if_pos h2]
theorem placesF_loop (h : ¬ 200 < l.length) (h1 : scanF plcE none l = 0) (h2 : (l.any fun p => decide (p.parent.size ≠ 0) && !hasP l p.parent) = false) (h3 : (l.any fun p => cycB l p.key) = true) : placesF l = 14 := by
  rw [placesF, if_neg h, h1, if_neg (by decide), if_neg (by rw [h2]; decide), if_pos h3]
theorem placesF_ok (h : ¬ 200 < l.length) (h1 : scanF plcE none l = 0) (h2 : (l.any fun p => decide (p.parent.size ≠ 0) && !hasP l p.parent) = false) (h3 : (l.any fun p => cycB l p.key) = false) : placesF l = 0 := by
  rw [placesF, if_neg h, h1, if_neg (by decide), if_neg (by rw [h2]; decide), if_neg (by rw [h3]; decide)]
theorem any_hit {α : Type} {l : List α} {f : α → Bool} {k : Nat} {x : α} (h : l[k]? = some x) (hf : f x = true) : l.any f = true := List.any_eq_true.2 ⟨x, List.mem_of_getElem? h, hf⟩
theorem any_next {α : Type} {l : List α} {f : α → Bool} {k : Nat} {x : α} (ha : (l.take k).any f = false) (h : l[k]? = some x) (hf : f x = false) : (l.take (k + 1)).any f = false := by
  rw [List.take_add_one, h, List.any_append, ha]; simp [hf]
theorem parL_self (hn : NoTwice (l.map (·.key))) (h : l[k]? = some x) : parL l x.key = x.parent := by
  have h1 := upV_par hn x.key
  have h2 : upV l x.key = some (.string x.parent) := by
    have := mapF_hit (key := fun p : Plc => p.key) (val := fun _ p => Value.string p.parent) l 0 (fun _ => none) hn k x h
    exact this
  rw [h2] at h1
  simp only [Option.getD_some, Value.string.injEq] at h1
  exact h1.symm
theorem parL_size (h : ∀ p ∈ l, p.parent.size ≤ 1000000) (s : ByteArray) : (parL l s).size ≤ 1000000 := by
  unfold parL
  split
  · rename_i p hp; exact h p (List.mem_of_find?_eq_some hp)
  · decide
theorem cycB_hit {j : Nat} {s : ByteArray} (hj : j < l.length) (h : climb l (j + 1) s = s) : cycB l s = true := cycB_iff.2 ⟨j, hj, h⟩
theorem cycB_no {s : ByteArray} (h : ∀ j, j < l.length → climb l (j + 1) s ≠ s) : cycB l s = false := by
  cases hc : cycB l s with
  | false => rfl
  | true => obtain ⟨j, hj, e⟩ := cycB_iff.1 hc; exact absurd e (h j hj)
end
theorem sl_mem {F : Nat → Prop} {w : World} {a : Option Addr} {len : Nat} {l : List Plc} (h : Sl RPlc 2 F w a len l) : ∀ p ∈ l, PlcSmall p := fun p hp => by
  obtain ⟨k, hk, rfl⟩ := List.mem_iff_getElem.1 hp
  obtain ⟨b, off, x, -, -, -, -, hsm, hx, -⟩ := h.atPlc (k := k) (by have := h.len; omega)
  rw [List.getElem?_eq_getElem hk] at hx
  rw [Option.some.inj hx]; exact hsm
set_option maxRecDepth 100000 in
set_option maxHeartbeats 12800000 in
theorem placesFault_any (a : Option Addr) (len cap : Nat) (l : List Plc) (w : World) (hs : Sl RPlc 2 (fun _ => True) w a len l) (hl : len ≤ 100000) :
    Calls Tryz.prog 63 #[.slice a len cap] w fun e w' => e = .returned (.int .i64 (placesF l)) ∧ All w w' := by
  have HLEN := Lib.hid hs.len
  have HSM := Lib.hid (sl_mem hs)
  by_cases hbig : 200 < len
  · have hd0 : decide ((200 : Int) < (len : Int)) = true := by simp; omega
    have HF := Lib.hid (placesF_large (l := l) (by have := HLEN.out; omega))
    clear hs
    go_enter Tryz.func63, Tryz.ntmps63
    go_wp2_with fail
    go_ret
    exact ⟨ret_int' HF.out.symm, Kept.refl _ _⟩
  have hd0 : decide ((200 : Int) < (len : Int)) = false := by simp; omega
  have HBIG := Lib.hid (show ¬ 200 < l.length from by have := HLEN.out; omega)
  have HS := Lib.hid (fun (wx : World) (k : All w wx) => hs.keep RPlc.ok k)
  have HPO := Lib.hid (fun (wx : World) (k : All w wx) => parentsOf_any a len cap l wx (hs.keep RPlc.ok k) hl)
  clear hs
  go_enter Tryz.func63, Tryz.ntmps63
  go_wp2_with fail
  go_loopw [16] (fun i wr => ∃ k : Nat, k ≤ len ∧ i = .int .i64 k ∧ ScanAt plcE l k ∧ All w wr) (fun i _ => len - (intOf i).toNat)
  case atStart => exact ⟨0, Nat.zero_le _, rfl, ScanAt.zero _ _, Kept.refl _ _⟩
  case round =>
    obtain ⟨k, hk, rfl, hat, hall⟩ := hrel
    obtain ⟨wo, rfl⟩ : ∃ wo : World, wo = wr := ⟨_, rfl⟩
    by_cases hlt : k < len
    · obtain ⟨b, off, x, ha, -, c0, c1, ⟨hz1, hz2⟩, hx, -⟩ := (HS.out _ hall).atPlc hlt
      subst ha
      have HX := Lib.hid hx
      clear hx
      cases hkey : isKeyB x.key with
      | false =>
        have HF := Lib.hid (placesF_scan HBIG.out (hat.bad HX.out (plcE_name hkey) (by decide)) (by decide))
        clear hat
        go_wp2_with fail
        refine (isKey_any x.key _ (by omega)).mono ?_
        rintro e w' ⟨rfl, rfl⟩
        rw [hkey]
        go_wp2_with fail
        go_ret
        exact ⟨ret_int' HF.out.symm, (by repeat (first | exact hall | refine Kept.then_drew ?_ | refine Kept.then_drewN ?_ _ | refine Kept.then_alloc ?_ _))⟩
      | true =>
        rcases k with _ | k
        · simp only [Nat.zero_mul, Nat.add_zero] at c0 c1
          by_cases hp0 : x.parent.size = 0
          · have hpe : (x.parent.toList == []) = true := by rw [toList_nil hp0]; rfl
            have HN := Lib.hid (hat.next HX.out (plcE_ok hkey (rfl) (Or.inl hp0)))
            clear hat hp0
            go_wp2_with fail
            refine (isKey_any x.key _ (by omega)).mono ?_
            rintro e w' ⟨rfl, rfl⟩
            rw [hkey]
            go_upto_region 8 with fail; go_quiet (fail); go_wp2_with fail
            go_roundw
            case rel => exact ⟨1, by omega, rfl, HN.out, (by repeat (first | exact hall | refine Kept.then_drew ?_ | refine Kept.then_drewN ?_ _ | refine Kept.then_alloc ?_ _))⟩
            case measure => simp [intOf]; omega
          · have hpe : (x.parent.toList == []) = false := by rw [beq_eq_false_iff_ne]; exact toList_ne hp0
            cases hpk : isKeyB x.parent with
            | false =>
              have HF := Lib.hid (placesF_scan HBIG.out (hat.bad HX.out (plcE_bad hkey (rfl) hp0 hpk) (by decide)) (by decide))
              clear hat hp0
              go_wp2_with fail
              refine (isKey_any x.key _ (by omega)).mono ?_
              rintro e w' ⟨rfl, rfl⟩
              rw [hkey]
              go_upto_region 8 with fail; go_quiet (fail); go_wp2_with fail
              refine (isKey_any x.parent _ (by omega)).mono ?_
              rintro e w' ⟨rfl, rfl⟩
              rw [hpk]
              go_wp2_with fail
              go_ret
              exact ⟨ret_int' HF.out.symm, (by repeat (first | exact hall | refine Kept.then_drew ?_ | refine Kept.then_drewN ?_ _ | refine Kept.then_alloc ?_ _))⟩
            | true =>
              have HN := Lib.hid (hat.next HX.out (plcE_ok hkey (rfl) (Or.inr hpk)))
              clear hat hp0
              go_wp2_with fail
              refine (isKey_any x.key _ (by omega)).mono ?_
              rintro e w' ⟨rfl, rfl⟩
              rw [hkey]
              go_upto_region 8 with fail; go_quiet (fail); go_wp2_with fail
              refine (isKey_any x.parent _ (by omega)).mono ?_
              rintro e w' ⟨rfl, rfl⟩
              rw [hpk]
              go_wp2_with fail
              go_roundw
              case rel => exact ⟨1, by omega, rfl, HN.out, (by repeat (first | exact hall | refine Kept.then_drew ?_ | refine Kept.then_drewN ?_ _ | refine Kept.then_alloc ?_ _))⟩
              case measure => simp [intOf]; omega
        · obtain ⟨b', off', y, ha', -, d0, -, -, hy, -⟩ := (HS.out _ hall).atPlc (k := k) (by omega)
          cases ha'
          have f1 : (0 : Int) ≤ (k : Int) := by omega
          have f2 : (k : Int) < (len : Int) := by omega
          have f3 : k < len := by omega
          have f5 := lt_of_cell d0
          have f4 : IntKind.i64.wrap (k : Int) = (k : Int) := IntWalk.i64_in _ (by omega)
          have HY := Lib.hid hy
          have hpv := Lib.hid (show prevAt l (k + 1) = some y from prevAt_succ hy)
          clear hy
          cases hle : leB x.key y.key with
          | true =>
            have he : plcE (prevAt l (k + 1)) x = 7 := by rw [hpv.out]; exact plcE_order hkey hle
            have HF := Lib.hid (placesF_scan HBIG.out (hat.bad HX.out he (by decide)) (by decide))
            clear he
            have hle' : (Op.bytesLess x.key.toList y.key.toList || x.key.toList == y.key.toList) = true := hle
            clear hat hle
            go_wp2_with fail
            refine (isKey_any x.key _ (by omega)).mono ?_
            rintro e w' ⟨rfl, rfl⟩
            rw [hkey]
            go_upto_region 8 with fail
            go_quiet (fail)
            go_wp2_with fail
            go_ret
            exact ⟨ret_int' HF.out.symm, (by repeat (first | exact hall | refine Kept.then_drew ?_ | refine Kept.then_drewN ?_ _ | refine Kept.then_alloc ?_ _))⟩
          | false =>
            have hle' : (Op.bytesLess x.key.toList y.key.toList || x.key.toList == y.key.toList) = false := hle
            by_cases hp0 : x.parent.size = 0
            · have hpe : (x.parent.toList == []) = true := by rw [toList_nil hp0]; rfl
              have HN := Lib.hid (hat.next HX.out (plcE_ok hkey (by rw [hpv.out]; exact hle) (Or.inl hp0)))
              clear hat hp0
              go_wp2_with fail
              refine (isKey_any x.key _ (by omega)).mono ?_
              rintro e w' ⟨rfl, rfl⟩
              rw [hkey]
              go_upto_region 8 with fail; go_quiet (fail); go_wp2_with fail
              go_roundw
              case rel => exact ⟨k + 1 + 1, by omega, by go_num, HN.out, (by repeat (first | exact hall | refine Kept.then_drew ?_ | refine Kept.then_drewN ?_ _ | refine Kept.then_alloc ?_ _))⟩
              case measure => simp [intOf]; omega
            · have hpe : (x.parent.toList == []) = false := by rw [beq_eq_false_iff_ne]; exact toList_ne hp0
              cases hpk : isKeyB x.parent with
              | false =>
                have HF := Lib.hid (placesF_scan HBIG.out (hat.bad HX.out (plcE_bad hkey (by rw [hpv.out]; exact hle) hp0 hpk) (by decide)) (by decide))
                clear hat hp0
                go_wp2_with fail
                refine (isKey_any x.key _ (by omega)).mono ?_
                rintro e w' ⟨rfl, rfl⟩
                rw [hkey]
                go_upto_region 8 with fail; go_quiet (fail); go_wp2_with fail
                refine (isKey_any x.parent _ (by omega)).mono ?_
                rintro e w' ⟨rfl, rfl⟩
                rw [hpk]
                go_wp2_with fail
                go_ret
                exact ⟨ret_int' HF.out.symm, (by repeat (first | exact hall | refine Kept.then_drew ?_ | refine Kept.then_drewN ?_ _ | refine Kept.then_alloc ?_ _))⟩
              | true =>
                have HN := Lib.hid (hat.next HX.out (plcE_ok hkey (by rw [hpv.out]; exact hle) (Or.inr hpk)))
                clear hat hp0
                go_wp2_with fail
                refine (isKey_any x.key _ (by omega)).mono ?_
                rintro e w' ⟨rfl, rfl⟩
                rw [hkey]
                go_upto_region 8 with fail; go_quiet (fail); go_wp2_with fail
                refine (isKey_any x.parent _ (by omega)).mono ?_
                rintro e w' ⟨rfl, rfl⟩
                rw [hpk]
                go_wp2_with fail
                go_roundw
                case rel => exact ⟨k + 1 + 1, by omega, by go_num, HN.out, (by repeat (first | exact hall | refine Kept.then_drew ?_ | refine Kept.then_drewN ?_ _ | refine Kept.then_alloc ?_ _))⟩
                case measure => simp [intOf]; omega
    · have hd : decide ((k : Int) < (len : Int)) = false := by simp; omega
      have hsc := hat.ok (by have := HLEN.out; omega)
      have HSC := Lib.hid hsc
      have HOK := Lib.hid (plc_ok hsc)
      have HP2 := Lib.hid (HPO.out _ hall)
      clear hat hsc HPO
      go_wp2_with fail
      refine HP2.out.mono ?_
      rintro e w2 ⟨mb, rfl, hmb, hm2, hw2⟩
      have hall2 := hall.trans hw2
      clear hall hw2 HP2
      have HM2 := Lib.hid hm2
      have HALL2 := Lib.hid hall2
      clear hm2 hall2 hmb
      go_wp2_with fail
      go_loopw [52] (fun i wr => ∃ k : Nat, k ≤ len ∧ i = .int .i64 k ∧ (l.take k).any (fun p => decide (p.parent.size ≠ 0) && !hasP l p.parent) = false ∧ All w2 wr) (fun i _ => len - (intOf i).toNat)
      case atStart => exact ⟨0, Nat.zero_le _, rfl, rfl, Kept.refl _ _⟩
      case round =>
        obtain ⟨k, hk, rfl, hno, hall⟩ := hrel
        obtain ⟨wo, rfl⟩ : ∃ wo : World, wo = wr := ⟨_, rfl⟩
        have HALW := Lib.hid (HALL2.out.trans hall)
        by_cases hlt : k < len
        · obtain ⟨b, off, x, ha, -, c0, c1, ⟨hz1, hz2⟩, hx, -⟩ := (HS.out _ HALW.out).atPlc hlt
          subst ha
          have HX := Lib.hid hx
          clear hx
          by_cases hp0 : x.parent.size = 0
          · have hpe : (x.parent.toList == []) = true := by rw [toList_nil hp0]; rfl
            have HN := Lib.hid (any_next hno HX.out (by simp [hp0]))
            clear hno hp0
            go_wp2_with fail
            go_roundw
            case rel => exact ⟨k + 1, by omega, by go_num, HN.out, (by repeat (first | exact hall | refine Kept.then_drew ?_ | refine Kept.then_drewN ?_ _ | refine Kept.then_alloc ?_ _))⟩
            case measure => simp [intOf]; omega
          · have hpe : (x.parent.toList == []) = false := by rw [beq_eq_false_iff_ne]; exact toList_ne hp0
            have HH := Lib.hid (fun (wx : World) (kx : All w2 wx) => hasU_any mb len l x.parent wx (HM2.out.keep kx trivial) hz2)
            cases hhp : hasP l x.parent with
            | false =>
              have HF := Lib.hid (placesF_none HBIG.out HSC.out (any_hit HX.out (by simp [hp0, hhp])))
              rw [hhp] at HH
              clear hno hp0 hhp
              go_wp2_with fail
              refine (HH.out _ (by repeat (first | exact hall | refine Kept.then_drew ?_ | refine Kept.then_drewN ?_ _ | refine Kept.then_alloc ?_ _))).mono ?_
              rintro e w4 ⟨rfl, rfl⟩
              go_wp2_with fail
              go_ret
              exact ⟨ret_int' HF.out.symm, HALL2.out.trans (by repeat (first | exact hall | refine Kept.then_drew ?_ | refine Kept.then_drewN ?_ _ | refine Kept.then_alloc ?_ _))⟩
            | true =>
              have HN := Lib.hid (any_next hno HX.out (by simp [hhp]))
              rw [hhp] at HH
              clear hno hp0 hhp
              go_wp2_with fail
              refine (HH.out _ (by repeat (first | exact hall | refine Kept.then_drew ?_ | refine Kept.then_drewN ?_ _ | refine Kept.then_alloc ?_ _))).mono ?_
              rintro e w4 ⟨rfl, rfl⟩
              go_wp2_with fail
              go_roundw
              case rel => exact ⟨k + 1, by omega, by go_num, HN.out, (by repeat (first | exact hall | refine Kept.then_drew ?_ | refine Kept.then_drewN ?_ _ | refine Kept.then_alloc ?_ _))⟩
              case measure => simp [intOf]; omega
        · have hd : decide ((k : Int) < (len : Int)) = false := by simp; omega
          have HANY := Lib.hid (show (l.any fun p => decide (p.parent.size ≠ 0) && !hasP l p.parent) = false from by rw [List.take_of_length_le (by have := HLEN.out; omega)] at hno; exact hno)
          clear hno HALW
          go_wp2_with fail
          go_loopw [69] (fun i wr => ∃ k : Nat, k ≤ len ∧ i = .int .i64 k ∧ (l.take k).any (fun p => cycB l p.key) = false ∧ All w2 wr) (fun i _ => len - (intOf i).toNat)
          case atStart => exact ⟨0, Nat.zero_le _, rfl, rfl, hall⟩
          case round =>
            clear hall hd hk hlt
            obtain ⟨k, hk, rfl, hno, hall⟩ := hrel
            obtain ⟨wo, rfl⟩ : ∃ wo : World, wo = wr := ⟨_, rfl⟩
            have HALW := Lib.hid (HALL2.out.trans hall)
            by_cases hlt : k < len
            · obtain ⟨b, off, x, ha, -, c0, c1, ⟨hz1, hz2⟩, hx, -⟩ := (HS.out _ HALW.out).atPlc hlt
              subst ha
              have HX := Lib.hid hx
              have hb9 := heap_at wo (.cells #[.string x.key, .string x.parent] 91) _ rfl
              obtain ⟨xb, hxb⟩ : ∃ z, z = wo.heap.size := ⟨_, rfl⟩
              have HXB := Lib.hid hxb
              rw [← hxb] at hb9
              have hk9 : All w2 (wo.alloc (.cells #[.string x.key, .string x.parent] 91)) := hall.then_alloc _
              have HCL := Lib.hid (show climb l 1 x.key = x.parent from parL_self HOK.out.once hx)
              have HNO := Lib.hid hno
              have HPZ := Lib.hid (fun (s : ByteArray) => parL_size (l := l) (fun p hp => (HSM.out p hp).2) s)
              clear hx hno hall hxb HALW
              go_upto_region 23 with fail
              simp only [← HXB.out]
              generalize wo.alloc (.cells #[.string x.key, .string x.parent] 91) = w9 at *
              have HB9 := Lib.hid hb9
              have e1 := cell_at (i := 1) hb9 rfl
              clear hb9 c0 c1
              go_wp2_with fail
              go_loopw [10, 77] (fun t i wr => ∃ (j : Nat) (s : ByteArray), j ≤ len ∧ t = .string s ∧ i = .int .i64 j ∧ s = climb l (j + 1) x.key ∧ s.size ≤ 1000000 ∧ (∀ j', j' < j → climb l (j' + 1) x.key ≠ x.key) ∧ All w9 wr) (fun _ i _ => len - (intOf i).toNat)
              case atStart => exact ⟨0, x.parent, Nat.zero_le _, rfl, rfl, HCL.out.symm, hz2, fun _ h => absurd h (by omega), Kept.refl _ _⟩
              case round =>
                obtain ⟨j, s, hj, rfl, rfl, hs, hsz, hne, hall⟩ := hrel
                obtain ⟨wi, rfl⟩ : ∃ wi : World, wi = wr := ⟨_, rfl⟩
                by_cases hjl : j < len
                · have e0 := cell_at (i := 0) (hall.heap HB9.out trivial) rfl
                  by_cases heq : s = x.key
                  · have HF := Lib.hid (placesF_loop HBIG.out HSC.out HANY.out (any_hit HX.out (cycB_hit (j := j) (by have := HLEN.out; omega) (by rw [← hs]; exact heq))))
                    have hd : (s.toList == x.key.toList) = true := by rw [heq]; simp
                    have HK := Lib.hid (HALL2.out.trans (hk9.trans hall))
                    clear hs hne heq hk9 hall e1
                    go_wp2_with fail
                    go_ret
                    exact ⟨ret_int' HF.out.symm, HK.out⟩
                  · have hd : (s.toList == x.key.toList) = false := by rw [beq_eq_false_iff_ne]; exact fun e => heq (bytes_ext e)
                    have hlk := ((HM2.out.keep hk9 trivial).keep hall trivial).look Tryz.underlying9 Tryz.underlying116 (Tryz.zeroValue9 _) s hsz
                    rw [upV_par HOK.out.once] at hlk
                    have HN := Lib.hid (show parL l s = climb l (j + 1 + 1) x.key from by rw [hs, climb_succ l (j + 1)])
                    have HNE := Lib.hid (show ∀ j', j' < j + 1 → climb l (j' + 1) x.key ≠ x.key from fun j' hj' => by
                      rcases Nat.lt_or_ge j' j with h | h
                      · exact hne j' h
                      · obtain rfl : j' = j := by omega
                        rw [← hs]; exact heq)
                    have hsz2 := HPZ.out s
                    generalize parL l s = s2 at *
                    clear hs hne heq e1
                    go_wp2_with fail
                    go_roundw
                    case rel => exact ⟨j + 1, s2, by omega, rfl, by go_num, HN.out, hsz2, HNE.out, hall⟩
                    case measure => simp [intOf]; omega
                · have hd : decide ((j : Int) < (len : Int)) = false := by simp; omega
                  have HN := Lib.hid (any_next HNO.out HX.out (cycB_no (fun j' hj' => hne j' (by have := HLEN.out; omega))))
                  have HK := Lib.hid (hk9.trans hall)
                  clear hs hne hk9 hall e1
                  go_wp2_with fail
                  go_roundw
                  case rel => exact ⟨k + 1, by omega, by go_num, HN.out, HK.out⟩
                  case measure => simp [intOf]; omega
            · have hd : decide ((k : Int) < (len : Int)) = false := by simp; omega
              have HF := Lib.hid (placesF_ok HBIG.out HSC.out HANY.out (by rw [List.take_of_length_le (by have := HLEN.out; omega)] at hno; exact hno))
              clear hno
              go_wp2_with fail
              go_ret
              exact ⟨ret_int' HF.out.symm, HALW.out⟩
end Go.Proofs.YtgobnlgmbplggaaGreatDoor

/- Index and Contains of strings. -/
namespace Go.Proofs.YtgobnlgmbplggaaGreatDoor
open Go.RowKit

set_option maxHeartbeats 800000 in
theorem index_any {F : Nat → Prop} (a : Option Addr) (len cap : Nat) (ss : List ByteArray) (x : ByteArray) (w : World) (hs : Sl RStr 1 F w a len ss) (hl : len ≤ 1000000) :
    Calls Tryz.prog 152 #[.slice a len cap, .string x] w fun e w' => e = .returned (.int .i64 (idxFrom x 0 ss)) ∧ w = w' := by
  have hlen := hs.len
  go_enter Tryz.func152, Tryz.ntmps152
  go_wp2
  go_loop [5, 8] (fun _ i => ∃ k : Nat, k ≤ len ∧ i = .int .i64 k ∧ x ∉ ss.take k) (fun _ i => len - (intOf i).toNat)
  case atStart => exact ⟨0, Nat.zero_le _, rfl, by simp⟩
  case round =>
    obtain ⟨k, hk, rfl, hnot⟩ := hrel
    by_cases hlt : k < len
    · obtain ⟨b, off, y, ha, _, hck, -, -, hsplit, htake⟩ := hs.atStr hlt
      have hltake : (ss.take k).length = k := by simp; omega
      have Hsplit := Lib.hid hsplit
      have Htake := Lib.hid htake
      have Hl := Lib.hid hltake
      clear hsplit htake hltake hlen
      subst ha
      clear hs
      by_cases hxy : x = y
      · have hfin : idxFrom x 0 ss = k := by rw [Hsplit.out, idxFrom_append hnot, Hl.out, idxFrom, if_pos hxy.symm]; simp
        have Hfin := Lib.hid hfin
        have he : (x.toList == y.toList) = true := by simp [hxy]
        clear hfin hxy
        go_wp2
        go_ret
        exact ⟨ret_int' Hfin.out.symm, rfl⟩
      · have he : (x.toList == y.toList) = false := by simp; exact fun e => hxy (bytes_ext e)
        go_wp2
        go_round
        case rel => exact ⟨k + 1, by omega, by go_num, by rw [Htake.out]; simp; exact ⟨hnot, hxy⟩⟩
        case measure => simp [intOf]; omega
    · have hd : decide ((k : Int) < (len : Int)) = false := by simp; omega
      have hfin : idxFrom x 0 ss = -1 := idxFrom_neg (by rw [List.take_of_length_le (by omega)] at hnot; exact hnot)
      have Hfin := Lib.hid hfin
      clear hfin
      go_wp2
      go_ret
      exact ⟨ret_int' Hfin.out.symm, rfl⟩

theorem contains_any {F : Nat → Prop} (a : Option Addr) (len cap : Nat) (ss : List ByteArray) (x : ByteArray) (w : World) (hs : Sl RStr 1 F w a len ss) (hl : len ≤ 1000000) :
    Calls Tryz.prog 80 #[.slice a len cap, .string x] w fun e w' => e = .returned (.bool (memB x ss)) ∧ w = w' := by
  by_cases hx : x ∈ ss
  · have h0 := idxFrom_nonneg (k := 0) hx
    rw [memB_true hx]
    go_enter Tryz.func80, Tryz.ntmps80
    go_wp2_with fail
    refine (index_any _ _ _ ss x _ hs hl).mono ?_
    rintro e w' ⟨rfl, rfl⟩
    go_wp2
    go_ret
    exact ⟨rfl, rfl⟩
  · have h0 := idxFrom_neg (k := 0) hx
    rw [memB_false hx]
    go_enter Tryz.func80, Tryz.ntmps80
    go_wp2_with fail
    refine (index_any _ _ _ ss x _ hs hl).mono ?_
    rintro e w' ⟨rfl, rfl⟩
    rw [h0]
    go_wp2
    go_ret
    exact ⟨rfl, rfl⟩
end Go.Proofs.YtgobnlgmbplggaaGreatDoor

/- Where the first is that a predicate holds of; what makeFunc leaves. -/
namespace Go.Proofs.YtgobnlgmbplggaaGreatDoor
open Go.RowKit

theorem hmfC : ∀ (fn : Fn) (first cap : Array Value) (w : World), (Instr.makeFunc fn first cap).run Tryz.prog w = .ok (.func fn first cap) w := fun _ _ _ _ => rfl
end Go.Proofs.YtgobnlgmbplggaaGreatDoor

/- PlaceAt, AboveOf, InsideOf. -/
namespace Go.Proofs.YtgobnlgmbplggaaGreatDoor
open Go.RowKit

def sliceLen : Value → Nat
  | .slice _ n _ => n
  | _ => 0
theorem findA_cases {α : Type} (p : α → Bool) : ∀ (l : List α) (i : Nat), (l.find? p = none ∧ findA p i l = -1) ∨ (∃ (k : Nat) (x : α), k < l.length ∧ l[k]? = some x ∧ l.find? p = some x ∧ findA p i l = ((i + k : Nat) : Int))
  | [], _ => Or.inl ⟨rfl, rfl⟩
  | x :: l, i => by
    by_cases h : p x = true
    · exact Or.inr ⟨0, x, by simp, rfl, List.find?_cons_of_pos h, by rw [findA, if_pos h]; simp⟩
    · rcases findA_cases p l (i + 1) with ⟨h1, h2⟩ | ⟨k, y, h0, h1, h2, h3⟩
      · exact Or.inl ⟨by rw [List.find?_cons_of_neg h]; exact h1, by rw [findA, if_neg h]; exact h2⟩
      · exact Or.inr ⟨k + 1, y, by simp; omega, by simpa using h1, by rw [List.find?_cons_of_neg h]; exact h2, by rw [findA, if_neg h, h3]; omega⟩
def placeAtF (l : List Plc) (s : ByteArray) : Int := findA (fun p : Plc => decide (p.key = s)) 0 l
theorem placeAtF_cases (l : List Plc) (s : ByteArray) : (hasP l s = false ∧ parL l s = ⟨#[]⟩ ∧ placeAtF l s = -1) ∨ (∃ (k : Nat) (x : Plc), k < l.length ∧ l[k]? = some x ∧ hasP l s = true ∧ parL l s = x.parent ∧ placeAtF l s = (k : Int)) := by
  rcases findA_cases (fun p : Plc => decide (p.key = s)) l 0 with ⟨h1, h2⟩ | ⟨k, x, h0, h1, h2, h3⟩
  · exact Or.inl ⟨by rw [hasP, plcAt, h1]; rfl, by rw [parL, plcAt, h1], h2⟩
  · exact Or.inr ⟨k, x, h0, h1, by rw [hasP, plcAt, h2]; rfl, by rw [parL, plcAt, h2], by rw [placeAtF, h3, Nat.zero_add]⟩
theorem placeAtF_neg (l : List Plc) (s : ByteArray) : decide (placeAtF l s < 0) = !hasP l s := by
  rcases placeAtF_cases l s with ⟨h1, -, h2⟩ | ⟨k, x, -, -, h1, -, h2⟩
  · rw [h1, h2]; rfl
  · rw [h1, h2]; simp
theorem aboveL_stop {l : List Plc} : ∀ (j g : Nat) (k : ByteArray), (climb l (j + 1) k).size = 0 → (∀ i, i < j → (climb l (i + 1) k).size ≠ 0) → j ≤ g → aboveL l g k = aboveL l j k
  | 0, 0, _, _, _, _ => rfl
  | 0, g + 1, k, h, _, _ => by simp only [aboveL]; rw [if_pos (show (parL l k).size = 0 from h)]
  | j + 1, 0, _, _, _, h => by omega
  | j + 1, g + 1, k, h, hn, hj => by
    have h0 : ¬ (parL l k).size = 0 := hn 0 (by omega)
    rw [aboveL, aboveL, if_neg h0, if_neg h0, aboveL_stop j g (parL l k) h (fun i hi => hn (i + 1) (by omega)) (by omega)]
theorem placeAt1_any (p : Nat) (s : ByteArray) (y : Plc) (w : World) (h : w.cell? ⟨p, 0, none⟩ = some (.string s)) :
    Calls Tryz.prog 82 #[.agg #[.string y.key, .string y.parent], .pointer (some ⟨p, 0, none⟩)] w fun e w' => e = .returned (.bool (decide (y.key = s))) ∧ All w w' := by
  have hlt := lt_of_cell h
  have hd : (y.key.toList == s.toList) = decide (y.key = s) := by
    by_cases he : y.key = s
    · rw [he, decide_eq_true rfl]; simp
    · rw [decide_eq_false he, beq_eq_false_iff_ne]; exact fun e => he (bytes_ext e)
  obtain ⟨z, hz⟩ : ∃ z, z = decide (y.key = s) := ⟨_, rfl⟩
  rw [← hz] at hd ⊢
  clear hz
  go_enter Tryz.func82, Tryz.ntmps82
  go_wp2_with fail
  go_ret
  exact ⟨rfl, Kept.alloc _ _ _⟩
theorem placeAt_any (a : Option Addr) (len cap : Nat) (l : List Plc) (s : ByteArray) (w : World) (hs : Sl RPlc 2 (fun _ => True) w a len l) (hl : len ≤ 1000000) :
    Calls Tryz.prog 28 #[.slice a len cap, .string s] w fun e w' => e = .returned (.int .i64 (placeAtF l s)) ∧ All w w' := by
  have hk1 : All w (w.alloc (.cells #[.string s] 9)) := Kept.alloc _ _ _
  have ha := heap_at w (.cells #[.string s] 9) _ rfl
  have eg : ∀ args w, (callFunc 82 args).run Tryz.prog w = .ok (.enter 82 args) w := enters_of Tryz.func82 (by kernel_rfl) rfl
  have HF := Lib.hid (indexFuncPlc_any 82 #[.pointer (some ⟨w.heap.size, 0, none⟩)] eg (fun p : Plc => decide (p.key = s)) (fun _ => True) a len cap l _ (hs.keep RPlc.ok hk1) hl (fun y _ wx hwx => placeAt1_any _ s y wx (hwx.cell (cell_at ha rfl) trivial)))
  have hmf' := hmfC
  clear eg ha hs
  go_enter Tryz.func28, Tryz.ntmps28
  go_wp2_with fail
  refine HF.out.mono ?_
  rintro e w2 ⟨rfl, hw2⟩
  go_wp2_with fail
  go_ret
  exact ⟨rfl, hk1.trans hw2⟩
/-- A row of strings of the call's own. -/
def StrsOut (ss : List ByteArray) (w : World) (e : Ending) (w' : World) : Prop := ∃ v, e = .returned v ∧ Acc RStr 1 9 (fun _ => False) w.heap.size w' v ss ∧ All w w'
set_option maxRecDepth 100000 in
set_option maxHeartbeats 12800000 in
theorem aboveOf_any (a : Option Addr) (len cap : Nat) (l : List Plc) (s : ByteArray) (w : World) (hs : Sl RPlc 2 (fun _ => True) w a len l) (hl : len ≤ 100000) (hz : s.size ≤ 1000000) :
    Calls Tryz.prog 31 #[.slice a len cap, .string s] w (StrsOut (upL l s) w) := by
  have HLEN := Lib.hid hs.len
  have HSM := Lib.hid (sl_mem hs)
  have HS := Lib.hid (fun (wx : World) (k : All w wx) => hs.keep RPlc.ok k)
  have HP := Lib.hid (fun (t : ByteArray) (wx : World) (k : All w wx) => placeAt_any a len cap l t wx (hs.keep RPlc.ok k) (by omega))
  have HPZ := Lib.hid (fun (t : ByteArray) => parL_size (l := l) (fun p hp => (HSM.out p hp).2) t)
  clear hs
  go_enter Tryz.func31, Tryz.ntmps31
  go_wp2_with fail
  go_loopw [1, 5] (fun t o wr => ∃ (j : Nat) (t0 : ByteArray), j ≤ len + 1 ∧ t = .string t0 ∧ t0 = climb l j s ∧ t0.size ≤ 1000000 ∧ (aboveL l j s).length = j ∧ (∀ i, i < j → (climb l (i + 1) s).size ≠ 0) ∧ Acc RStr 1 9 (fun _ => False) w.heap.size wr o (aboveL l j s) ∧ All w wr) (fun _ o _ => len + 1 - sliceLen o)
  case atStart => exact ⟨0, s, Nat.zero_le _, rfl, rfl, hz, rfl, fun _ h => absurd h (by omega), Acc.nil _ _ _ _ _ _, Kept.refl _ _⟩
  case round =>
    obtain ⟨j, t0, hj, rfl, ht, htz, hjl, hne, hacc, hall⟩ := hrel
    obtain ⟨wo, rfl⟩ : ∃ wo : World, wo = wr := ⟨_, rfl⟩
    obtain ⟨av, cv, rfl, -⟩ := hacc.form
    have HAC := Lib.hid hacc
    have HNE := Lib.hid hne
    have HT := Lib.hid ht
    have HJ := Lib.hid hjl
    clear hacc hne ht hjl
    by_cases hlt : j ≤ len
    · have hd0 : decide ((aboveL l j s).length ≤ len) = true := by have := HJ.out; simp; omega
      have HPT := Lib.hid (HP.out t0 _ hall)
      rcases placeAtF_cases l t0 with ⟨-, h1, h2⟩ | ⟨k, x, hk, hx, -, h1, h2⟩
      · rw [h2] at HPT
        have HUP := Lib.hid (show upL l s = aboveL l j s from aboveL_stop j (l.length + 1) s (by rw [climb_succ, ← HT.out, h1]; rfl) HNE.out (by have := HLEN.out; omega))
        clear h1 h2
        go_wp2_with fail
        refine HPT.out.mono ?_
        rintro e w2 ⟨rfl, hw2⟩
        have hacc2 := HAC.out.keepAll RStr.ok hw2
        have HFIN := Lib.hid (show StrsOut (upL l s) w (.returned (.slice av (aboveL l j s).length cv)) w2 from ⟨_, rfl, by rw [HUP.out]; exact hacc2, hall.trans hw2⟩)
        clear hacc2 hw2
        go_wp2_with fail
        go_ret
        exact HFIN.out
      · rw [h2] at HPT
        have HX := Lib.hid hx
        have f1 : (0 : Int) ≤ (k : Int) := by omega
        have f3 : k < len := by have := HLEN.out; omega
        have f2 : (k : Int) < (len : Int) := by omega
        have f4 : decide ((k : Int) < 0) = false := by simp
        by_cases hp0 : x.parent.size = 0
        · have hpe : (x.parent.toList == []) = true := by rw [toList_nil hp0]; rfl
          have HUP := Lib.hid (show upL l s = aboveL l j s from aboveL_stop j (l.length + 1) s (by rw [climb_succ, ← HT.out, h1]; exact hp0) HNE.out (by have := HLEN.out; omega))
          clear h1 h2 hx hp0
          go_wp2_with fail
          refine HPT.out.mono ?_
          rintro e w2 ⟨rfl, hw2⟩
          obtain ⟨b, off, y, ha, -, -, c1, -, hy, -⟩ := (HS.out _ (hall.trans hw2)).atPlc f3
          rw [HX.out] at hy
          obtain rfl := Option.some.inj hy
          subst ha
          have hacc2 := HAC.out.keepAll RStr.ok hw2
          have HFIN := Lib.hid (show StrsOut (upL l s) w (.returned (.slice av (aboveL l j s).length cv)) w2 from ⟨_, rfl, by rw [HUP.out]; exact hacc2, hall.trans hw2⟩)
          clear hacc2 hw2 hy
          go_wp2_with fail
          go_ret
          exact HFIN.out
        · have hpe : (x.parent.toList == []) = false := by rw [beq_eq_false_iff_ne]; exact toList_ne hp0
          have HN := Lib.hid (show x.parent = climb l (j + 1) s from by rw [climb_succ, ← HT.out, h1])
          have HNE2 := Lib.hid (show ∀ i, i < j + 1 → (climb l (i + 1) s).size ≠ 0 from fun i hi => by
            rcases Nat.lt_or_ge i j with h | h
            · exact HNE.out i h
            · obtain rfl : i = j := by omega
              rw [← HN.out]; exact hp0)
          have HSN := Lib.hid (show aboveL l (j + 1) s = aboveL l j s ++ [x.parent] from by rw [HN.out]; exact aboveL_snoc j s HNE2.out)
          have hxz : x.parent.size ≤ 1000000 := (HSM.out x (List.mem_of_getElem? HX.out)).2
          clear h1 h2 hx hp0
          go_wp2_with fail
          refine HPT.out.mono ?_
          rintro e w2 ⟨rfl, hw2⟩
          obtain ⟨b, off, y, ha, -, -, c1, -, hy, -⟩ := (HS.out _ (hall.trans hw2)).atPlc f3
          rw [HX.out] at hy
          obtain rfl := Option.some.inj hy
          subst ha
          have hacc2 := HAC.out.keepAll RStr.ok hw2
          have hw2k := hall.trans hw2
          have hws := hw2k.size
          obtain ⟨xs, hxs⟩ : ∃ z, z = aboveL l j s := ⟨_, rfl⟩
          have hjl := HJ.out
          rw [← hxs] at hacc2 hjl ⊢
          have HXS := Lib.hid hxs
          have HL := Lib.hid hjl
          have hxl : xs.length ≤ 100001 := by omega
          clear hy hw2 hxs hjl HAC hd0 HJ
          go_wp2_with (at_builtin; refine wp_append1 RStr.ok _ rfl _ _ 45 rfl w.heap.size 9 (.string ⟨#[]⟩) 1 16 Tryz.underlying45 (by kernel_rfl) rfl (by decide) (fun _ => False) _ (xs) rfl (hacc2.keepAll RStr.ok (Kept.alloc _ _ _)) ⟨_, 0, none⟩ 1 [.string x.parent] rfl rfl (World.news_of_block (cs := #[.string x.parent]) (heap_at _ _ _ (by simp))) (by simp [Value.oneCell']) x.parent ⟨rfl, hxz⟩ (by omega) (by decide) (by simp at *; omega) ?_)
          intro p' c' w9 hacc9 hg9 _
          have hk9 : All w w9 := (hw2k.then_alloc _).grown hg9 (fun i hi => Or.inl (hacc2.lt i hi).1)
          go_wp2_with fail
          go_roundw
          case rel => exact ⟨j + 1, x.parent, by omega, rfl, HN.out, hxz, by rw [HSN.out, ← HXS.out, List.length_append, HL.out]; rfl, HNE2.out, by rw [HSN.out, ← HXS.out]; exact hacc9, hk9⟩
          case measure => have := HL.out; show len + 1 - (xs.length + 1) < len + 1 - (aboveL l j s).length; rw [← HXS.out]; omega
    · have hd0 : decide ((aboveL l j s).length ≤ len) = false := by have := HJ.out; simp; omega
      have HFIN := Lib.hid (show StrsOut (upL l s) w (.returned (.slice av (aboveL l j s).length cv)) wo from ⟨_, rfl, by rw [upL, HLEN.out, show len + 1 = j by omega]; exact HAC.out, hall⟩)
      go_wp2_with fail
      go_ret
      exact HFIN.out
theorem StrsOut.slice {ss : List ByteArray} {w w' : World} {e : Ending} (h : StrsOut ss w e w') : ∃ a c, e = .returned (.slice a ss.length c) ∧ Sl RStr 1 (fun _ => True) w' a ss.length ss ∧ All w w' := by
  obtain ⟨v, h1, h2, h3⟩ := h
  obtain ⟨a, c, rfl, hs⟩ := h2.sl RStr.ok (by decide) (G := fun _ => True) (fun _ h => h.elim) (fun _ _ => trivial)
  exact ⟨a, c, h1, hs, h3⟩
theorem insideOf_any (a : Option Addr) (len cap : Nat) (l : List Plc) (s t : ByteArray) (w : World) (hs : Sl RPlc 2 (fun _ => True) w a len l) (hl : len ≤ 100000) (hz : s.size ≤ 1000000) :
    Calls Tryz.prog 29 #[.slice a len cap, .string s, .string t] w fun e w' => e = .returned (.bool (inL l s t)) ∧ All w w' := by
  have HA := Lib.hid (aboveOf_any a len cap l s w hs hl hz)
  have HLEN := Lib.hid (show (upL l s).length ≤ 1000000 from by have := aboveL_len (l := l) (l.length + 1) s; have := hs.len; show (aboveL l (l.length + 1) s).length ≤ 1000000; omega)
  by_cases h : s = t
  · have hd : (s.toList == t.toList) = true := by rw [h]; simp
    have HI := Lib.hid (show inL l s t = true from by rw [inL, decide_eq_true h]; rfl)
    rw [HI.out]
    clear hs h
    go_enter Tryz.func29, Tryz.ntmps29
    go_wp2_with fail
    go_ret
    exact ⟨rfl, Kept.refl _ _⟩
  · have hd : (s.toList == t.toList) = false := by rw [beq_eq_false_iff_ne]; exact fun e => h (bytes_ext e)
    have HI := Lib.hid (show inL l s t = memB t (upL l s) from by rw [inL, decide_eq_false h]; rfl)
    rw [HI.out]
    clear hs h
    go_enter Tryz.func29, Tryz.ntmps29
    go_wp2_with fail
    refine HA.out.mono ?_
    rintro e w2 h2
    obtain ⟨av, cv, rfl, hsl, hw2⟩ := h2.slice
    have HC := Lib.hid (contains_any av _ cv (upL l s) t w2 hsl HLEN.out)
    clear hsl h2
    go_wp2_with fail
    refine HC.out.mono ?_
    rintro e w3 ⟨rfl, rfl⟩
    go_wp2_with fail
    go_ret
    exact ⟨rfl, hw2⟩
end Go.Proofs.YtgobnlgmbplggaaGreatDoor
