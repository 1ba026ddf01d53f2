/- slices of strs: IndexFunc, DeleteFunc, Clone. -/
import Derived.Test.YtgobnlgmbplggaaGreatDoorWj
import Derived.Test.YtgobnlgmbplggaaGreatDoorYa
import Derived.Test.YtgobnlgmbplggaaGreatDoorZd
import Derived.Test.YtgobnlgmbplggaaGreatDoorS4
import Derived.Test.YtgobnlgmbplggaaGreatDoorSx
import Derived.Test.YtgobnlgmbplggaaGreatDoorU9
import Derived.Laws.BytesArg
namespace Go.Proofs.YtgobnlgmbplggaaGreatDoor
open Go.RowKit


set_option maxHeartbeats 800000 in
theorem indexFuncStr_any (g : FuncId) (caps : Array Value) (eg : ∀ args w, (callFunc g args).run Tryz.prog w = .ok (.enter g args) w) (p : ByteArray → Bool) (G : Nat → Prop)
    (a : Option Addr) (len cap : Nat) (ss : List ByteArray) (w : World) (hs : Sl RStr 1 (fun _ => True) w a len ss) (hl : len ≤ 1000000) (hp : AnswersG Tryz.prog g caps G w (fun y : ByteArray => Value.string y) p ss) :
    Calls Tryz.prog 160 #[.slice a len cap, .func (.func g) #[] caps] w fun e w' => e = .returned (.int .i64 (findA p 0 ss)) ∧ All w w' := by
  have Hlen := Lib.hid hs.len
  have HP := Lib.hid hp
  clear hp
  go_enter Tryz.func160, Tryz.ntmps160
  go_wp2
  go_loopw [5, 8] (fun _ i wr => ∃ k : Nat, k ≤ len ∧ i = .int .i64 k ∧ (ss.take k).any p = false ∧ All w wr) (fun _ i _ => len - (intOf i).toNat)
  case atStart => exact ⟨0, Nat.zero_le _, rfl, by simp, Kept.refl _ _⟩
  case round =>
    obtain ⟨k, hk, rfl, hnot, hall⟩ := hrel
    have Hnot := Lib.hid hnot
    clear hnot
    by_cases hlt : k < len
    · obtain ⟨b, off, y, ha, -, c0, hS, hy, -, -⟩ := (hs.keep RStr.ok hall).atStr hlt
      have Hy := Lib.hid hy
      have hmem := List.mem_of_getElem? hy
      clear hy
      subst ha
      clear hs
      cases hpy : p y with
      | true =>
        have Hfin := Lib.hid (findA_at Hnot.out Hy.out hpy)
        go_wp2_with fail
        refine (HP.out y hmem _ (Kept.all hall)).mono ?_
        rintro e w' ⟨rfl, hw⟩
        rw [hpy]
        go_wp2_with fail
        go_ret
        exact ⟨ret_int' Hfin.out.symm, hall.trans hw⟩
      | false =>
        have Hn := Lib.hid (anyA_next Hnot.out Hy.out hpy)
        go_wp2_with fail
        refine (HP.out y hmem _ (Kept.all hall)).mono ?_
        rintro e w' ⟨rfl, hw⟩
        rw [hpy]
        go_wp2_with fail
        go_roundw
        case rel => exact ⟨k + 1, by omega, by go_num, Hn.out, hall.trans hw⟩
        case measure => simp [intOf]; omega
    · have hd : decide ((k : Int) < (len : Int)) = false := by simp; omega
      have Hfin := Lib.hid (findA_end Hnot.out (by have := Hlen.out; omega))
      go_wp2
      go_ret
      exact ⟨ret_int' Hfin.out.symm, hall⟩


set_option maxRecDepth 100000 in
set_option maxHeartbeats 1600000 in
theorem deleteFuncStr_any {B : Nat} (g : FuncId) (caps : Array Value) (eg : ∀ args w, (callFunc g args).run Tryz.prog w = .ok (.enter g args) w) (p : ByteArray → Bool)
    (v : Value) (xs : List ByteArray) (w : World) (h : Acc RStr 1 9 (fun _ => False) B w v xs) (hl : xs.length ≤ 1000000) (hp : AnswersG Tryz.prog g caps (fun k => v.ownBlock ≠ some k) w (fun y : ByteArray => Value.string y) p xs) :
    Calls Tryz.prog 91 #[v, .func (.func g) #[] caps] w (DelPost RStr 1 9 B v (keptA p xs) w) := by
  obtain ⟨a, cap, rfl, hcap⟩ := h.form
  obtain ⟨a', cap', hv', hsl⟩ := h.sl RStr.ok (by decide) (G := fun _ => True) (fun _ h => h.elim) (fun _ _ => trivial)
  cases hv'
  have HI := Lib.hid (indexFuncStr_any g caps eg p _ a xs.length cap xs w hsl hl hp)
  have HP := Lib.hid hp
  cases hx : xs.any p with
  | false =>
    have h0 := findA_neg (k := 0) hx
    have HK := Lib.hid (keptA_none hx)
    rw [h0] at HI
    obtain ⟨n, hn⟩ : ∃ n, n = xs.length := ⟨_, rfl⟩
    have HN := Lib.hid hn
    rw [← hn] at HI hcap hl ⊢
    clear hx h0 hp hsl hn
    go_enter Tryz.func91, Tryz.ntmps91
    go_wp2_with fail
    refine HI.out.mono ?_
    rintro e w' ⟨rfl, hw⟩
    go_wp2_with fail
    go_ret
    exact ⟨a, cap, by rw [HK.out, ← HN.out]; rfl, by rw [HK.out]; exact h.keepAll RStr.ok hw, Kept.all hw, by rw [HK.out, ← HN.out]⟩
  | true =>
    obtain ⟨i0, y0, h0, hy0, hp0, hn0⟩ := findA_hit (k := 0) hx
    rw [Nat.zero_add] at h0
    rw [h0] at HI
    have hi0 := (List.getElem?_eq_some_iff.1 hy0).1
    obtain ⟨g0, cap2, cur0, hv2, hb0, hg0, h1, hm, h3⟩ := h.flatRow (by omega)
    cases hv2
    have HS0 := Lib.hid (Sift.start hy0 hp0 hn0)
    obtain ⟨n, hn⟩ : ∃ n, n = xs.length := ⟨_, rfl⟩
    have HN := Lib.hid hn
    rw [← hn] at HI hcap hl h1 hi0 h HP ⊢
    have hne1 : ((i0 : Int) == -1) = false := beq_eq_false_iff_ne.2 (by omega)
    have hm' : (cap : Int) ≤ 9223372036854775807 := by unfold maxLen at hm; omega
    have hown : (Value.slice (some ⟨g0, 0, none⟩) n cap).ownBlock = some g0 := rfl
    rw [hown] at HP
    clear hx h0 hp hsl hn hy0 hp0 hn0 hg0 h3
    go_enter Tryz.func91, Tryz.ntmps91
    go_wp2_with fail
    refine HI.out.mono ?_
    rintro e w1 ⟨rfl, hw1⟩
    go_wp2_with fail
    go_loopw [5, 6, 7] (fun si sj _ wr => ∃ i j : Nat, si = .int .i64 i ∧ sj = .int .i64 j ∧ j ≤ n ∧ ∃ qs : List ByteArray, Sift p xs qs i j ∧ Acc RStr 1 9 (fun _ => False) B wr (.slice (some ⟨g0, 0, none⟩) n cap) qs ∧ Kept (fun k => k ≠ g0) w wr) (fun _ sj _ _ => n - (intOf sj).toNat)
    case atStart => exact ⟨i0, i0 + 1, rfl, by go_num, by omega, xs, HS0.out, h.keepAll RStr.ok hw1, Kept.all hw1⟩
    case round =>
      clear h hw1 HS0
      obtain ⟨i, j, rfl, rfl, hjn, qs, hsi, hacc, hk⟩ := hrel
      obtain ⟨wo, rfl⟩ : ∃ wo : World, wo = wr := ⟨_, rfl⟩
      have hij := hsi.lt
      have hql := hsi.len
      have hqn : qs.length = n := by rw [hql]; exact HN.out.symm
      obtain ⟨a', c', hv', hslq⟩ := hacc.sl RStr.ok (by decide) (G := fun _ => True) (fun _ h => h.elim) (fun _ _ => trivial)
      rw [hqn] at hv' hslq
      cases hv'
      obtain ⟨g2, cap3, cur, hv3, -, hg, -, -, hcs⟩ := hacc.flatRow (by omega)
      have hgg : g2 = g0 := by cases hv3; rfl
      have hcc : cap3 = cap := by cases hv3; rfl
      subst hgg
      subst hcc
      have HSI := Lib.hid hsi
      have hic : i < cap3 := by omega
      by_cases hlt : j < n
      · obtain ⟨b, off, y, ha, -, c0, hS, hy, -, -⟩ := hslq.atStr hlt
        cases ha
        have hyx : xs[j]? = some y := by rw [← hsi.rest j (Nat.le_refl _)]; exact hy
        have HYX := Lib.hid hyx
        have hmem := List.mem_of_getElem? hyx
        try rw [Nat.zero_add] at *
        have HG := Lib.hid hg
        have p0 := hslq.atStr (k := i) (by omega)
        obtain ⟨b, off, yi, hai, -, q0, -, -, -, -⟩ := p0
        cases hai
        try rw [Nat.zero_add] at *
        clear hy hyx hslq hsi hv3 hg hcs hql hqn
        cases hpy : p y with
        | true =>
          have HNX := Lib.hid (HSI.out.drop HYX.out hpy)
          go_wp2_with fail
          refine (HP.out y hmem _ (hk.mono (fun k h e => h (by rw [e])))).mono ?_
          rintro e w2 ⟨rfl, hw2⟩
          rw [hpy]
          go_wp2_with fail
          go_roundw
          case rel => exact ⟨i, j + 1, rfl, by go_num, by omega, qs, HNX.out, hacc.keepAll RStr.ok hw2, hk.trans (Kept.all hw2)⟩
          case measure => simp [intOf]; omega
        | false =>
          have HNX := Lib.hid (HSI.out.keep HYX.out hpy)
          go_wp2_with fail
          refine (HP.out y hmem _ (hk.mono (fun k h e => h (by rw [e])))).mono ?_
          rintro e w2 ⟨rfl, hw2⟩
          rw [hpy]
          have hg2 := hw2.heap HG.out trivial
          have z0 := frozen_at (i := i) hg2
          have q0 := hw2.cell q0 trivial
          clear hg2
          go_wp2_with fail
          go_roundw
          case rel => exact ⟨i + 1, j + 1, by go_num, by go_num, by omega, qs.set i y, HNX.out, by have hh := Acc.setFlat flatStr (hacc.keepAll RStr.ok hw2) i (by omega) y hS; rw [Nat.mul_one] at hh; exact hh, (hk.trans (Kept.all hw2)).trans (kept_setCellsF (F := fun k => k ≠ g2) g2 (by simp) [Value.string y] w2 (i))⟩
          case measure => simp [intOf]; omega
      · have hdk : decide ((j : Int) < (n : Int)) = false := by simp; omega
        have hin : i < n := by omega
        have hle2 : i * 1 + (n - i) * 1 ≤ cap3 * 1 := by rw [← Nat.add_mul]; exact Nat.mul_le_mul_right _ (by omega)
        obtain ⟨zs, hzs⟩ : ∃ zs, zs = (Builtin.zeroCells (.string ⟨#[]⟩ : Value).cells (n - i)).toList := ⟨_, rfl⟩
        have hzl : zs.length = (n - i) * 1 := by rw [hzs]; simp [Builtin.zeroCells, Value.cells]
        have hclr : ∀ ty, (Builtin.clear_ #[45] ty #[.slice (some ⟨g2, i, none⟩) (n - i) (cap3 - i)]).run Tryz.prog wo = .ok (.tuple #[]) (wo.setCells g2 (i) zs) := fun ty => by
          rw [hzs]
          refine run_clear_flat wo _ _ ty (.string ⟨#[]⟩) Tryz.underlying45 Tryz.zeroValue9 g2 _ (n - i) (cap3 - i) (by omega) (fun u hu => ?_) (fun t ht => ?_) (fun t ht => frozen_at hg)
          · obtain ⟨t, ht, rfl⟩ := List.getElem_of_mem hu
            simp [Builtin.zeroCells, Value.cells]
            have h5 : t % 1 < 1 := Nat.mod_lt _ (by decide)
            generalize t % 1 = m at *
            rcases m with _ | m
            · rfl
            omega
          · have hzl2 : (Builtin.zeroCells (.string ⟨#[]⟩ : Value).cells (n - i)).size = (n - i) * 1 := by simp [Builtin.zeroCells, Value.cells]
            have ht2 : i * 1 + t < cur.size := by rw [hcs]; omega
            simp only [Nat.mul_one] at ht2
            simp [World.cell?, hg, ht2]
        have hacc9 := Acc.cutFlat flatStr hacc i hin zs hzl
        have hk9 : Kept (fun k => k ≠ g2) w (wo.setCells g2 (i * 1) zs) := hk.trans (kept_setCellsF g2 (by simp) _ _ _)
        have HD := Lib.hid (hsi.done (by have := HN.out; omega))
        have hil : (keptA p xs).length = i := by rw [← HD.out]; simp; omega
        have HIL := Lib.hid hil
        simp only [Nat.mul_one] at hacc9 hk9
        rw [HD.out] at hacc9
        clear hil hsi hslq hacc hk hv3 hg hcs hql hqn hzs hzl hle2
        generalize wo.setCells g2 (i) zs = w9 at *
        go_wp2_with fail
        go_ret
        exact ⟨some ⟨g2, 0, none⟩, cap3, by rw [HIL.out]; rfl, by rw [HIL.out]; exact hacc9, hk9.mono (fun k hk e => hk (by rw [e]; rfl)), rfl⟩


end Go.Proofs.YtgobnlgmbplggaaGreatDoor

/- SimpleOf of the reference. -/
namespace Go.Proofs.YtgobnlgmbplggaaGreatDoor
open Go.RowKit

/-- Small letters for great ones; points and commas gone. -/
def lowS (z : Int) : Int := if 65 ≤ z ∧ z ≤ 90 then z + 32 else z
def keepS (c : Int) : Bool := !(decide (c = 46) || decide (c = 44))
def simZ (zs : List Int) : List Int := (zs.filter keepS).map lowS
def bytesZ (s : ByteArray) : List Int := s.data.toList.map fun b => (b.toNat : Int)
def simT (s : ByteArray) : ByteArray := strOfNums (simZ (bytesZ s))
def spB : ByteArray := ⟨#[32]⟩
def simW (s : ByteArray) : List ByteArray := (Lib.splitB spB 0 (Lib.countB (simT s) spB) (simT s)).filter fun x => !decide (x = ⟨#[]⟩)
def simJ (ws : List ByteArray) : ByteArray := ⟨(Lib.join (ws.map (·.data.toList)) [32]).toArray⟩
def simB (s : ByteArray) : ByteArray := simJ (simW s)
theorem simZ_snoc (zs : List Int) (z : Int) : simZ (zs ++ [z]) = simZ zs ++ (if keepS z = true then [lowS z] else []) := by
  unfold simZ
  rw [List.filter_append, List.map_append]
  congr 1
  cases h : keepS z <;> simp [h]
theorem simZ_len (zs : List Int) : (simZ zs).length ≤ zs.length := by
  unfold simZ
  rw [List.length_map]
  exact List.length_filter_le _ _
theorem bytesZ_len (s : ByteArray) : (bytesZ s).length = s.size := by
  unfold bytesZ
  rw [List.length_map, Lib.size_eq]
theorem bytesZ_take {s : ByteArray} {k : Nat} (h : k < s.size) : (bytesZ s).take (k + 1) = (bytesZ s).take k ++ [((s[k]'h).toNat : Int)] := by
  have h1 : (bytesZ s)[k]? = some ((s[k]'h).toNat : Int) := by
    unfold bytesZ
    rw [List.getElem?_map, Array.getElem?_toList, Array.getElem?_eq_getElem (show k < s.data.size from h)]
    rfl
  rw [List.take_add_one, h1]
  rfl
def RByte : Rel Int := fun _ _ vs x => vs = [.int .u8 x]
theorem RByte.ok : RByte.Ok := ⟨fun _ h => h, fun _ h => h, fun h => h⟩
/-- string(b) of a slice of bytes. -/
theorem conv_bytes {F : Nat → Prop} {w : World} {a : Option Addr} {len : Nat} {xs : List Int} (cap : Nat) (h : Sl RByte 1 F w a len xs) :
    (convert 134 9 (.slice a len cap)).run Tryz.prog w = .ok (.string (strOfNums xs)) w := by
  have hl := h.len
  rcases Nat.eq_zero_or_pos len with h0 | h0
  · have hx : xs = [] := List.eq_nil_of_length_eq_zero (by omega)
    subst hx
    subst h0
    cases a with
    | none => exact run_convert_bytes_nil w _ _ Tryz.underlying134 Tryz.underlying5 _ _ _ Tryz.underlying9
    | some p =>
      rw [run_convert_bytes_string w _ _ _ _ _ _ Tryz.underlying134 Tryz.underlying5 Tryz.underlying9]
      simp [Conv.bytesToString, strOfNums, loadCells, loadCellsFrom]
      rfl
  · obtain ⟨b, off, rfl, -, hc⟩ := h.2 h0
    refine run_convert_bytes_arg w _ _ Tryz.underlying134 Tryz.underlying5 b off len cap xs hl (fun i hi => ?_) _ Tryz.underlying9
    obtain ⟨vs, h1, h2, h3⟩ := hc i (by omega)
    have := h2 0 (by omega)
    cases h3
    simpa [List.getD_eq_getElem?_getD, List.getElem?_eq_getElem (show i < xs.length by omega)] using this
theorem strOfNums_size (zs : List Int) : (strOfNums zs).size = zs.length := by
  simp [strOfNums, ByteArray.size]
theorem simT_size (s : ByteArray) : (simT s).size ≤ s.size := by
  unfold simT
  rw [strOfNums_size, ← bytesZ_len s]
  exact simZ_len _
theorem splitB_size (sep : ByteArray) : ∀ (k : Nat) (s : ByteArray), ∀ x ∈ Lib.splitB sep 0 k s, x.size ≤ s.size
  | 0, s, x, hx => by
    rw [Lib.splitB_zero] at hx
    rw [List.mem_singleton.1 hx]; exact Nat.le_refl _
  | k + 1, s, x, hx => by
    by_cases h : Lib.indexB s sep = -1
    · rw [Lib.splitB_miss _ _ _ _ h] at hx
      rw [List.mem_singleton.1 hx]; exact Nat.le_refl _
    · have h0 : 0 ≤ Lib.indexB s sep := by
        have h1 : -1 ≤ Lib.indexB s sep := Lib.index_ge _ _
        omega
      obtain ⟨i, hi⟩ := Int.eq_ofNat_of_zero_le h0
      rw [Lib.splitB_hit sep 0 k s i hi] at hx
      rcases List.mem_cons.1 hx with rfl | hx
      · rw [ByteArray.size_extract]; omega
      · have := splitB_size sep k _ x hx
        rw [ByteArray.size_extract] at this; omega
theorem join_le (c : Nat) : ∀ (l : List (List UInt8)), (∀ x ∈ l, x.length ≤ c) → (Lib.join l [32]).length ≤ l.length * (c + 1)
  | [], _ => by simp [Lib.join]
  | [x], h => by
    have := h x (List.mem_singleton.2 rfl)
    simp [Lib.join]; omega
  | x :: y :: l, h => by
    have h1 := h x (List.mem_cons_self)
    have h2 := join_le c (y :: l) (fun z hz => h z (List.mem_cons_of_mem _ hz))
    have h3 : (Lib.join (x :: y :: l) [32]).length = x.length + 1 + (Lib.join (y :: l) [32]).length := by simp [Lib.join]; omega
    rw [h3]
    simp only [List.length_cons] at h2 ⊢
    have e : (l.length + 1 + 1) * (c + 1) = (l.length + 1) * (c + 1) + (c + 1) := by rw [Nat.add_mul (l.length + 1) 1]; omega
    rw [e]; omega
theorem Acc.strCellsD {T : TypeId} {F : Nat → Prop} {B : Nat} {w : World} {v : Value} {ss : List ByteArray} (h : Acc RStr 1 T F B w v ss) (h0 : ss ≠ []) :
    ∃ g c, v = .slice (some ⟨g, 0, none⟩) ss.length c ∧ ss.length ≤ c ∧ g < w.heap.size ∧ B ≤ g ∧ (∀ (j : Nat) x, ss[j]? = some x → w.cell? ⟨g, 0 + j, none⟩ = some (.string x)) := by
  obtain ⟨a, c, rfl, hc⟩ := h.form
  obtain ⟨a', c', hv, hsl⟩ := h.sl RStr.ok (by decide) (G := fun _ => True) (fun _ _ => trivial) (fun _ _ => trivial)
  injection hv with h1 h2 h3
  subst h1
  have hp := List.length_pos_iff.2 h0
  obtain ⟨b, off, rfl, -, hcells⟩ := hsl.strs hp
  have hob : (Value.slice (some ⟨b, off, none⟩) ss.length c).ownBlock = some b := rfl
  obtain ⟨hB, hlt⟩ := h.lt b hob
  obtain ⟨cells, hown, -⟩ := h
  have hoff : off = 0 := by
    rcases hown.2 with ⟨hv, -⟩ | ⟨g, cap, cur, hv, -⟩
    · exact (nomatch hv)
    · injection hv with h1 h2 h3; injection h1 with h1; injection h1
  subst hoff
  refine ⟨b, c, rfl, hc, hlt, hB, fun j x hx => ?_⟩
  have hj : j < ss.length := (List.getElem?_eq_some_iff.1 hx).1
  rw [(hcells j hj).1, List.getD_eq_getElem?_getD, hx]; rfl
set_option maxRecDepth 100000 in
set_option maxHeartbeats 800000 in
theorem simple1_any (s : ByteArray) (w : World) : Calls Tryz.prog 93 #[.string s] w fun e w' => e = .returned (.bool (decide (s = ⟨#[]⟩))) ∧ All w w' := by
  by_cases h : s = ⟨#[]⟩
  · subst h
    go_enter Tryz.func93, Tryz.ntmps93
    go_wp2_with fail
    go_ret
    exact ⟨rfl, Kept.refl _ _⟩
  · have hd : s.toList.isEmpty = false := by
      have := toList_ne (s := s) (fun e => h (by
        obtain ⟨d⟩ := s
        rw [Array.eq_empty_of_size_eq_zero (show d.size = 0 from e)]))
      cases hc : s.toList with
      | nil => exact absurd hc this
      | cons _ _ => rfl
    have HE := Lib.hid (show decide (s = ⟨#[]⟩) = false by simpa using h)
    rw [HE.out]
    clear h
    go_enter Tryz.func93, Tryz.ntmps93
    go_wp2_with fail
    go_ret
    exact ⟨rfl, Kept.refl _ _⟩

set_option maxRecDepth 100000 in
set_option maxHeartbeats 12800000 in
theorem simpleOf_any (s : ByteArray) (mx : Int) (w : World) (hs : s.size ≤ 10000) (hm : w.cell? ⟨0, 0, none⟩ = some (.int .i64 mx)) :
    Calls Tryz.prog 44 #[.string s] w fun e w' => e = .returned (.string (simB s)) ∧ All w w' := by
  have HMX := Lib.hid hm
  clear hm
  have EG : ∀ args w, (callFunc 93 args).run Tryz.prog w = .ok (.enter 93 args) w := fun args w => by first | rfl | (unfold callFunc; rfl)
  have HEG := Lib.hid EG
  clear EG
  go_enter Tryz.func44, Tryz.ntmps44
  go_wp2_with fail
  go_loopw [3, 9] (fun v i wr => ∃ (k : Nat) (es : List Int), k ≤ s.size ∧ i = .int .i64 k ∧ es = simZ ((bytesZ s).take k) ∧ Acc RByte 1 5 (fun _ => False) w.heap.size wr v es ∧ All w wr) (fun _ i _ => s.size - (intOf i).toNat)
  case atStart => exact ⟨0, [], Nat.zero_le _, rfl, by simp [simZ], Acc.nil _ _ _ _ _ _, Kept.refl _ _⟩
  case round =>
    obtain ⟨k, es, hk, rfl, hes, hacc, hwr⟩ := hrel
    obtain ⟨wo, rfl⟩ : ∃ wo : World, wo = wr := ⟨_, rfl⟩
    have hel : es.length ≤ k := by
      rw [hes]
      have h1 := simZ_len ((bytesZ s).take k)
      have h2 := List.length_take_le k (bytesZ s)
      omega
    have HES := Lib.hid hes
    clear hes
    obtain ⟨av, cv, rfl, hcv⟩ := hacc.form
    obtain ⟨m, hm⟩ : ∃ m, m = es.length := ⟨_, rfl⟩
    have HM := Lib.hid hm
    rw [← hm] at hacc hel hcv ⊢
    clear hm
    have hzo := hwr.size
    by_cases hlt : k < s.size
    · have HTK := Lib.hid (bytesZ_take hlt)
      have hzb := (s[k]'hlt).toNat_lt
      obtain ⟨z, hz⟩ : ∃ z : Int, z = ((s[k]'hlt).toNat : Int) := ⟨_, rfl⟩
      have hz1 : 0 ≤ z ∧ z ≤ 255 := by omega
      have HZ := Lib.hid hz
      have d0 : decide ((k : Int) < (s.size : Int)) = true := by simp; omega
      clear hzb
      have hsplit : (0 ≤ z ∧ z ≤ 43) ∨ (44 ≤ z ∧ z ≤ 44) ∨ (45 ≤ z ∧ z ≤ 45) ∨ (46 ≤ z ∧ z ≤ 46) ∨ (47 ≤ z ∧ z ≤ 64) ∨ (65 ≤ z ∧ z ≤ 90) ∨ (91 ≤ z ∧ z ≤ 255) := by omega
      clear hz1
      rcases hsplit with hz2 | hz2 | hz2 | hz2 | hz2 | hz2 | hz2
      · -- 0 to 43
        have g1 : decide ((65 : Int) ≤ z) = false := by simp; omega
        have g2 : decide (z ≤ 90) = true := by simp; omega
        have g3 : (z == 46) = false := by simp; omega
        have g4 : (z == 44) = false := by simp; omega
        have g5 : (z != 46) = true := by simp; omega
        have g6 : (z != 44) = true := by simp; omega
        have hlow : lowS z = z := by unfold lowS; rw [if_neg (by omega)]
        have hkp : keepS z = true := by unfold keepS; simp; omega
        have HN := Lib.hid (show simZ ((bytesZ s).take (k + 1)) = es ++ [z] from by rw [HTK.out, simZ_snoc, ← HZ.out, hlow, if_pos hkp, HES.out])
        clear hz2 hlow hkp
        go_upto_region 6 with fail
        rw [← HZ.out]
        clear hz
        go_wp2_with (at_builtin; refine wp_append1 RByte.ok _ rfl _ _ 134 rfl w.heap.size 5 (.int .u8 0) 1 1 Tryz.underlying134 (by kernel_rfl) rfl (by decide) (fun _ => False) _ es rfl (hacc.keepAll RByte.ok (Kept.alloc _ _ _)) ⟨_, 0, none⟩ 1 [.int .u8 z] rfl rfl (World.news_of_block (cs := #[.int .u8 z]) (heap_alloc_new wo _)) (by simp [Value.oneCell']) z rfl (by have := HM.out; omega) (by decide) (by simp; omega) ?_)
        intro p8 c8 w9 hac9 hgrow hdr
        have hk9 : All w w9 := (hwr.then_alloc _).grown hgrow (fun k hk => Or.inl (hacc.lt k hk).1)
        clear hgrow hacc hdr
        go_wp2_with fail
        go_roundw
        case rel => exact ⟨k + 1, es ++ [z], by omega, by go_num, HN.out.symm, hac9, hk9⟩
        case measure => simp [intOf]; omega
      · -- 44 to 44
        obtain rfl : z = 44 := by omega
        have hlow : lowS 44 = 44 := by unfold lowS; rw [if_neg (by omega)]
        have hkp : keepS 44 = false := by unfold keepS; simp
        have HN := Lib.hid (show simZ ((bytesZ s).take (k + 1)) = es from by rw [HTK.out, simZ_snoc, ← HZ.out, hlow, if_neg (by rw [hkp]; decide), List.append_nil, HES.out])
        clear hz2 hlow hkp
        go_upto_region 6 with fail
        rw [← HZ.out]
        clear hz
        go_wp2_with fail
        go_roundw
        case rel => exact ⟨k + 1, es, by omega, by go_num, HN.out.symm, hacc, hwr⟩
        case measure => simp [intOf]; omega
      · -- 45 to 45
        have g1 : decide ((65 : Int) ≤ z) = false := by simp; omega
        have g2 : decide (z ≤ 90) = true := by simp; omega
        have g3 : (z == 46) = false := by simp; omega
        have g4 : (z == 44) = false := by simp; omega
        have g5 : (z != 46) = true := by simp; omega
        have g6 : (z != 44) = true := by simp; omega
        have hlow : lowS z = z := by unfold lowS; rw [if_neg (by omega)]
        have hkp : keepS z = true := by unfold keepS; simp; omega
        have HN := Lib.hid (show simZ ((bytesZ s).take (k + 1)) = es ++ [z] from by rw [HTK.out, simZ_snoc, ← HZ.out, hlow, if_pos hkp, HES.out])
        clear hz2 hlow hkp
        go_upto_region 6 with fail
        rw [← HZ.out]
        clear hz
        go_wp2_with (at_builtin; refine wp_append1 RByte.ok _ rfl _ _ 134 rfl w.heap.size 5 (.int .u8 0) 1 1 Tryz.underlying134 (by kernel_rfl) rfl (by decide) (fun _ => False) _ es rfl (hacc.keepAll RByte.ok (Kept.alloc _ _ _)) ⟨_, 0, none⟩ 1 [.int .u8 z] rfl rfl (World.news_of_block (cs := #[.int .u8 z]) (heap_alloc_new wo _)) (by simp [Value.oneCell']) z rfl (by have := HM.out; omega) (by decide) (by simp; omega) ?_)
        intro p8 c8 w9 hac9 hgrow hdr
        have hk9 : All w w9 := (hwr.then_alloc _).grown hgrow (fun k hk => Or.inl (hacc.lt k hk).1)
        clear hgrow hacc hdr
        go_wp2_with fail
        go_roundw
        case rel => exact ⟨k + 1, es ++ [z], by omega, by go_num, HN.out.symm, hac9, hk9⟩
        case measure => simp [intOf]; omega
      · -- 46 to 46
        obtain rfl : z = 46 := by omega
        have hlow : lowS 46 = 46 := by unfold lowS; rw [if_neg (by omega)]
        have hkp : keepS 46 = false := by unfold keepS; simp
        have HN := Lib.hid (show simZ ((bytesZ s).take (k + 1)) = es from by rw [HTK.out, simZ_snoc, ← HZ.out, hlow, if_neg (by rw [hkp]; decide), List.append_nil, HES.out])
        clear hz2 hlow hkp
        go_upto_region 6 with fail
        rw [← HZ.out]
        clear hz
        go_wp2_with fail
        go_roundw
        case rel => exact ⟨k + 1, es, by omega, by go_num, HN.out.symm, hacc, hwr⟩
        case measure => simp [intOf]; omega
      · -- 47 to 64
        have g1 : decide ((65 : Int) ≤ z) = false := by simp; omega
        have g2 : decide (z ≤ 90) = true := by simp; omega
        have g3 : (z == 46) = false := by simp; omega
        have g4 : (z == 44) = false := by simp; omega
        have g5 : (z != 46) = true := by simp; omega
        have g6 : (z != 44) = true := by simp; omega
        have hlow : lowS z = z := by unfold lowS; rw [if_neg (by omega)]
        have hkp : keepS z = true := by unfold keepS; simp; omega
        have HN := Lib.hid (show simZ ((bytesZ s).take (k + 1)) = es ++ [z] from by rw [HTK.out, simZ_snoc, ← HZ.out, hlow, if_pos hkp, HES.out])
        clear hz2 hlow hkp
        go_upto_region 6 with fail
        rw [← HZ.out]
        clear hz
        go_wp2_with (at_builtin; refine wp_append1 RByte.ok _ rfl _ _ 134 rfl w.heap.size 5 (.int .u8 0) 1 1 Tryz.underlying134 (by kernel_rfl) rfl (by decide) (fun _ => False) _ es rfl (hacc.keepAll RByte.ok (Kept.alloc _ _ _)) ⟨_, 0, none⟩ 1 [.int .u8 z] rfl rfl (World.news_of_block (cs := #[.int .u8 z]) (heap_alloc_new wo _)) (by simp [Value.oneCell']) z rfl (by have := HM.out; omega) (by decide) (by simp; omega) ?_)
        intro p8 c8 w9 hac9 hgrow hdr
        have hk9 : All w w9 := (hwr.then_alloc _).grown hgrow (fun k hk => Or.inl (hacc.lt k hk).1)
        clear hgrow hacc hdr
        go_wp2_with fail
        go_roundw
        case rel => exact ⟨k + 1, es ++ [z], by omega, by go_num, HN.out.symm, hac9, hk9⟩
        case measure => simp [intOf]; omega
      · -- 65 to 90
        have g1 : decide ((65 : Int) ≤ z) = true := by simp; omega
        have g2 : decide (z ≤ 90) = true := by simp; omega
        obtain ⟨y, hy⟩ : ∃ y : Int, y = z + 32 := ⟨_, rfl⟩
        have f0 : IntKind.u8.wrap (z + 32) = y := by rw [IntWalk.u8_in _ (by omega), hy]
        have hlow : lowS z = y := by unfold lowS; rw [if_pos (by omega), hy]
        have hkp : keepS z = true := by unfold keepS; simp; omega
        have HN := Lib.hid (show simZ ((bytesZ s).take (k + 1)) = es ++ [y] from by rw [HTK.out, simZ_snoc, ← HZ.out, hlow, if_pos hkp, HES.out])
        clear hz2 hlow hkp hy
        go_upto_region 6 with fail
        rw [← HZ.out]
        clear hz
        go_wp2_with (at_builtin; refine wp_append1 RByte.ok _ rfl _ _ 134 rfl w.heap.size 5 (.int .u8 0) 1 1 Tryz.underlying134 (by kernel_rfl) rfl (by decide) (fun _ => False) _ es rfl (hacc.keepAll RByte.ok (Kept.alloc _ _ _)) ⟨_, 0, none⟩ 1 [.int .u8 y] rfl rfl (World.news_of_block (cs := #[.int .u8 y]) (heap_alloc_new wo _)) (by simp [Value.oneCell']) y rfl (by have := HM.out; omega) (by decide) (by simp; omega) ?_)
        intro p8 c8 w9 hac9 hgrow hdr
        have hk9 : All w w9 := (hwr.then_alloc _).grown hgrow (fun k hk => Or.inl (hacc.lt k hk).1)
        clear hgrow hacc hdr
        go_wp2_with fail
        go_roundw
        case rel => exact ⟨k + 1, es ++ [y], by omega, by go_num, HN.out.symm, hac9, hk9⟩
        case measure => simp [intOf]; omega
      · -- 91 to 255
        have g1 : decide ((65 : Int) ≤ z) = true := by simp; omega
        have g2 : decide (z ≤ 90) = false := by simp; omega
        have g3 : (z == 46) = false := by simp; omega
        have g4 : (z == 44) = false := by simp; omega
        have g5 : (z != 46) = true := by simp; omega
        have g6 : (z != 44) = true := by simp; omega
        have hlow : lowS z = z := by unfold lowS; rw [if_neg (by omega)]
        have hkp : keepS z = true := by unfold keepS; simp; omega
        have HN := Lib.hid (show simZ ((bytesZ s).take (k + 1)) = es ++ [z] from by rw [HTK.out, simZ_snoc, ← HZ.out, hlow, if_pos hkp, HES.out])
        clear hz2 hlow hkp
        go_upto_region 6 with fail
        rw [← HZ.out]
        clear hz
        go_wp2_with (at_builtin; refine wp_append1 RByte.ok _ rfl _ _ 134 rfl w.heap.size 5 (.int .u8 0) 1 1 Tryz.underlying134 (by kernel_rfl) rfl (by decide) (fun _ => False) _ es rfl (hacc.keepAll RByte.ok (Kept.alloc _ _ _)) ⟨_, 0, none⟩ 1 [.int .u8 z] rfl rfl (World.news_of_block (cs := #[.int .u8 z]) (heap_alloc_new wo _)) (by simp [Value.oneCell']) z rfl (by have := HM.out; omega) (by decide) (by simp; omega) ?_)
        intro p8 c8 w9 hac9 hgrow hdr
        have hk9 : All w w9 := (hwr.then_alloc _).grown hgrow (fun k hk => Or.inl (hacc.lt k hk).1)
        clear hgrow hacc hdr
        go_wp2_with fail
        go_roundw
        case rel => exact ⟨k + 1, es ++ [z], by omega, by go_num, HN.out.symm, hac9, hk9⟩
        case measure => simp [intOf]; omega
    · have d0 : decide ((k : Int) < (s.size : Int)) = false := by simp; omega
      obtain ⟨av', cv', hv', hsl⟩ := hacc.sl RByte.ok (by decide) (G := fun _ => True) (fun _ h => h.elim) (fun _ _ => trivial)
      rw [← HM.out] at hv' hsl
      injection hv' with q1 q2 q3
      subst q1 q3
      have hconv := conv_bytes cv hsl
      have hee : es = simZ (bytesZ s) := by rw [HES.out, List.take_of_length_le (by rw [bytesZ_len]; omega)]
      have hE : strOfNums es = simT s := by rw [hee]; rfl
      have hTz := simT_size s
      have HJB := Lib.hid (show simB s = simJ (simW s) from rfl)
      have HWB := Lib.hid (show simW s = keptA (fun x => decide (x = ⟨#[]⟩)) (Lib.splitB spB 0 (Lib.countB (simT s) spB) (simT s)) from rfl)
      rw [hE] at hconv
      obtain ⟨t, ht⟩ : ∃ t, t = simT s := ⟨_, rfl⟩
      rw [← ht] at hconv hTz
      have hlen : (Lib.splitB spB 0 (Lib.countB t spB) t).length = Lib.countB t spB + 1 := Lib.splitB_all spB (by decide) 0 _ t rfl
      have hcnt := Lib.countB_le spB (by decide) _ t (Nat.le_refl _)
      obtain ⟨ps, hps⟩ : ∃ ps, ps = Lib.splitB spB 0 (Lib.countB t spB) t := ⟨_, rfl⟩
      obtain ⟨n, hn⟩ : ∃ n, n = Lib.countB t spB := ⟨_, rfl⟩
      have HPS := Lib.hid hps
      have hpz : ∀ x ∈ ps, x.size ≤ t.size := by rw [hps]; exact splitB_size spB _ t
      rw [← hps, ← hn] at hlen
      rw [← hn] at hcnt
      have HSP := Lib.hid (Tryz.strings_Split t spB mx wo (by omega) (hwr.cell HMX.out trivial) (by decide))
      rw [← hps, ← hn] at HSP
      rw [← ht, ← hps] at HWB
      have HPZ := Lib.hid hpz
      have hkl := keptA_len (fun x : ByteArray => decide (x = ⟨#[]⟩)) ps
      clear hsl hee hE q2 hacc hps hn hpz ht
      go_upto_region 11 with fail
      go_wp2_with fail
      refine HSP.out.mono ?_
      rintro e w3 ⟨rfl, hw3⟩
      have hk3 : All wo w3 := by rw [hw3]; exact Kept.alloc _ _ _
      have hac3 : Acc RStr 1 9 (fun _ => False) wo.heap.size w3 (.slice (some ⟨wo.heap.size, 0, none⟩) (n + 1) (n + 1)) ps := by
        rw [hw3]
        have hob := World.ownsRow_lit (e := 9) (size := 1) wo (ps.map Value.string).toArray (n + 1) (Nat.le_refl _) (by unfold maxLen; omega) (by simp; omega)
        refine ⟨ps.map Value.string, by rw [hlen]; simpa using hob, fun i h => ⟨by simp [List.take_one, h], ?_⟩⟩
        exact Nat.le_trans (HPZ.out _ (List.getElem_mem h)) (by omega)
      have HDF := Lib.hid (deleteFuncStr_any (B := wo.heap.size) 93 #[] HEG.out (fun x => decide (x = ⟨#[]⟩)) _ ps w3 hac3 (by omega) (fun y _ wx _ => by
        have := simple1_any y wx
        simpa using this))
      have hk3w := hwr.trans hk3
      clear hac3 hw3
      go_wp2_with fail
      refine HDF.out.mono ?_
      rintro e w4 ⟨p4, c4, rfl, hac4, hk4, hob4⟩
      obtain ⟨ws, hws⟩ : ∃ ws, ws = keptA (fun x : ByteArray => decide (x = ⟨#[]⟩)) ps := ⟨_, rfl⟩
      rw [← hws] at hac4 hkl hob4 ⊢
      rw [← hws] at HWB
      have hwz : ∀ x ∈ ws, x.size ≤ 10000 := by
        intro x hx
        rw [hws] at hx
        exact Nat.le_trans (HPZ.out x ((List.mem_filter.1 hx).1)) (by omega)
      have hjl : (Lib.join (ws.map (·.data.toList)) [32]).length ≤ 140737488355328 := by
        refine Nat.le_trans (join_le 10000 _ (fun x hx => ?_)) ?_
        · obtain ⟨y, hy, rfl⟩ := List.mem_map.1 hx
          rw [← Lib.size_eq]; exact hwz y hy
        · rw [List.length_map]
          exact Nat.le_trans (Nat.mul_le_mul (show ws.length ≤ 10001 by omega) (Nat.le_refl _)) (by decide)
      clear hws hwz
      obtain ⟨gb, hgb⟩ : ∃ gb, p4 = some ⟨gb, 0, none⟩ := by
        obtain ⟨cells, hown, -⟩ := hac4
        rcases hown.2 with ⟨h1, -⟩ | ⟨g, cap, cur, h1, -⟩
        · rw [h1] at hob4; exact absurd hob4 (by simp [Value.ownBlock])
        · injection h1 with h1 h2 h3
          exact ⟨g, h1⟩
      subst hgb
      obtain rfl : gb = wo.heap.size := by
        have : some gb = some wo.heap.size := hob4
        injection this
      have hk04 : All w w4 := hk3w.trans2 hk4 (fun j hj _ => by
        show some wo.heap.size ≠ some j
        intro e; injection e with e; omega)
      obtain ⟨hlt4, hlt5⟩ := hac4.lt wo.heap.size rfl
      have hcap4 := hac4.form
      obtain ⟨a5, c5, hv5, hc5⟩ := hcap4
      injection hv5 with q4 q5 q6
      subst q6
      have hcell : ∀ (j : Nat) x, ws[j]? = some x → w4.cell? ⟨wo.heap.size, 0 + j, none⟩ = some (.string x) := by
        intro j x hx
        have h0 : ws ≠ [] := fun e => by rw [e] at hx; simp at hx
        obtain ⟨g, c, hv, -, -, -, hcl⟩ := hac4.strCellsD h0
        injection hv with e1 e2 e3
        injection e1 with e1
        injection e1 with e1
        subst e1
        exact hcl j x hx
      have HJ := Lib.hid (Tryz.strings_Join wo.heap.size 0 c4 ws ⟨#[32]⟩ w4 hcell hlt5 (by omega) hc5 hjl)
      clear hac4 hcell hjl hob4 hc5 hk4 q4 q5
      go_wp2_with fail
      refine HJ.out.mono ?_
      rintro e w5 ⟨rfl, hw5⟩
      go_wp2_with fail
      go_ret
      exact ⟨by rw [HJB.out, HWB.out]; rfl, hk04.trans (Kept.of_below hw5)⟩
theorem sim_ann : simB ⟨#[65, 110, 110, 32, 76, 101, 101]⟩ = ⟨#[97, 110, 110, 32, 108, 101, 101]⟩ := by kernel_rfl
end Go.Proofs.YtgobnlgmbplggaaGreatDoor
