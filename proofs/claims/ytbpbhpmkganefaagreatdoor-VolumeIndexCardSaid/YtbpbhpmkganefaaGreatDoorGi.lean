/- fold: small letters for great ones; letters, digits, spaces and what is no ASCII stay. -/
import Derived.Test.YtbpbhpmkganefaaGreatDoorKb
import Derived.Test.YtbpbhpmkganefaaGreatDoorZd
import Derived.Test.YtbpbhpmkganefaaGreatDoorEx
import Derived.Test.YtbpbhpmkganefaaGreatDoorSu
import Derived.Laws.BytesArg
namespace Go.Proofs.YtbpbhpmkganefaaGreatDoor
open Go.RowKit

def lowZ (z : Int) : Int := if 65 ≤ z ∧ z ≤ 90 then z + 32 else z
def keepZ (c : Int) : Bool := decide (97 ≤ c ∧ c ≤ 122) || decide (48 ≤ c ∧ c ≤ 57) || decide (c = 32) || decide (127 < c)
def foldZ (zs : List Int) : List Int := (zs.map lowZ).filter keepZ
def bytesZ (s : ByteArray) : List Int := s.data.toList.map fun b => (b.toNat : Int)
def foldB (s : ByteArray) : ByteArray := strOfNums (foldZ (bytesZ s))
theorem foldZ_snoc (zs : List Int) (z : Int) : foldZ (zs ++ [z]) = foldZ zs ++ (if keepZ (lowZ z) = true then [lowZ z] else []) := by
  unfold foldZ
  rw [List.map_append, List.filter_append]
  congr 1
  cases h : keepZ (lowZ z) <;> simp [h]
theorem foldZ_len (zs : List Int) : (foldZ zs).length ≤ zs.length := by
  unfold foldZ
  have := List.length_filter_le keepZ (zs.map lowZ)
  simpa using this
theorem bytesZ_len (s : ByteArray) : (bytesZ s).length = s.size := by
  unfold bytesZ
  rw [List.length_map, Lib.size_eq]
theorem bytesZ_take {s : ByteArray} {k : Nat} (h : k < s.size) : (bytesZ s).take (k + 1) = (bytesZ s).take k ++ [((s[k]'h).toNat : Int)] := by
  have h1 : (bytesZ s)[k]? = some ((s[k]'h).toNat : Int) := by
    unfold bytesZ
    rw [List.getElem?_map, Array.getElem?_toList, Array.getElem?_eq_getElem (show k < s.data.size from h)]
    rfl
  rw [List.take_add_one, h1]
  rfl
def RByte : Rel Int := fun _ _ vs x => vs = [.int .u8 x]
theorem RByte.ok : RByte.Ok := ⟨fun _ h => h, fun _ h => h, fun h => h⟩
/-- string(b) of a slice of bytes. -/
theorem conv_bytes {F : Nat → Prop} {w : World} {a : Option Addr} {len : Nat} {xs : List Int} (cap : Nat) (h : Sl RByte 1 F w a len xs) :
    (convert 101 9 (.slice a len cap)).run Tryz.prog w = .ok (.string (strOfNums xs)) w := by
  have hl := h.len
  rcases Nat.eq_zero_or_pos len with h0 | h0
  · have hx : xs = [] := List.eq_nil_of_length_eq_zero (by omega)
    subst hx
    subst h0
    cases a with
    | none => exact run_convert_bytes_nil w _ _ Tryz.underlying101 Tryz.underlying5 _ _ _ Tryz.underlying9
    | some p =>
      rw [run_convert_bytes_string w _ _ _ _ _ _ Tryz.underlying101 Tryz.underlying5 Tryz.underlying9]
      simp [Conv.bytesToString, strOfNums, loadCells, loadCellsFrom]
      rfl
  · obtain ⟨b, off, rfl, -, hc⟩ := h.2 h0
    refine run_convert_bytes_arg w _ _ Tryz.underlying101 Tryz.underlying5 b off len cap xs hl (fun i hi => ?_) _ Tryz.underlying9
    obtain ⟨vs, h1, h2, h3⟩ := hc i (by omega)
    have := h2 0 (by omega)
    cases h3
    simpa [List.getD_eq_getElem?_getD, List.getElem?_eq_getElem (show i < xs.length by omega)] using this

set_option maxRecDepth 100000 in
set_option maxHeartbeats 12800000 in
theorem foldP_any (s : ByteArray) (w : World) (hs : s.size ≤ 1000000) :
    Calls Tryz.prog 31 #[.string s] w fun e w' => e = .returned (.string (foldB s)) ∧ AllD w w' := by
  go_enter Tryz.func31, Tryz.ntmps31
  go_wp2_with fail
  go_loopw [3, 4] (fun v i wr => ∃ (k : Nat) (es : List Int), k ≤ s.size ∧ i = .int .i64 k ∧ es = foldZ ((bytesZ s).take k) ∧ Acc RByte 1 5 (fun _ => False) w.heap.size wr v es ∧ AllD w wr) (fun _ i _ => s.size - (intOf i).toNat)
  case atStart => exact ⟨0, [], Nat.zero_le _, rfl, by simp [foldZ], Acc.nil _ _ _ _ _ _, AllD.refl _⟩
  case round =>
    obtain ⟨k, es, hk, rfl, hes, hacc, hwr⟩ := hrel
    obtain ⟨wo, rfl⟩ : ∃ wo : World, wo = wr := ⟨_, rfl⟩
    have hel : es.length ≤ k := by
      rw [hes]
      have h1 := foldZ_len ((bytesZ s).take k)
      have h2 := List.length_take_le k (bytesZ s)
      omega
    have HES := Lib.hid hes
    clear hes
    obtain ⟨av, cv, rfl, hcv⟩ := hacc.form
    obtain ⟨m, hm⟩ : ∃ m, m = es.length := ⟨_, rfl⟩
    have HM := Lib.hid hm
    rw [← hm] at hacc hel hcv ⊢
    clear hm
    have hzo := hwr.1.size
    by_cases hlt : k < s.size
    · have HTK := Lib.hid (bytesZ_take hlt)
      have hzb := (s[k]'hlt).toNat_lt
      obtain ⟨z, hz⟩ : ∃ z : Int, z = ((s[k]'hlt).toNat : Int) := ⟨_, rfl⟩
      have hz1 : 0 ≤ z ∧ z ≤ 255 := by omega
      have HZ := Lib.hid hz
      have d0 : decide ((k : Int) < (s.size : Int)) = true := by simp; omega
      clear hzb
      have hsplit : (0 ≤ z ∧ z ≤ 31) ∨ (32 ≤ z ∧ z ≤ 32) ∨ (33 ≤ z ∧ z ≤ 47) ∨ (48 ≤ z ∧ z ≤ 57) ∨ (58 ≤ z ∧ z ≤ 64) ∨ (65 ≤ z ∧ z ≤ 90) ∨ (91 ≤ z ∧ z ≤ 96) ∨ (97 ≤ z ∧ z ≤ 122) ∨ (123 ≤ z ∧ z ≤ 127) ∨ (128 ≤ z ∧ z ≤ 255) := by omega
      clear hz1
      rcases hsplit with hz2 | hz2 | hz2 | hz2 | hz2 | hz2 | hz2 | hz2 | hz2 | hz2
      · -- 0 to 31
        have g1 : decide ((65 : Int) ≤ z) = false := by simp; omega
        have g2 : decide (z ≤ 90) = true := by simp; omega
        have g3 : decide ((97 : Int) ≤ z) = false := by simp; omega
        have g4 : decide (z ≤ 122) = true := by simp; omega
        have g5 : decide ((48 : Int) ≤ z) = false := by simp; omega
        have g6 : decide (z ≤ 57) = true := by simp; omega
        have g7 : (z == 32) = false := by simp; omega
        have g8 : decide ((127 : Int) < z) = false := by simp; omega
        have hlow : lowZ z = z := by unfold lowZ; rw [if_neg (by omega)]
        have hkp : keepZ z = false := by unfold keepZ; simp; omega
        have HN := Lib.hid (show foldZ ((bytesZ s).take (k + 1)) = es from by rw [HTK.out, foldZ_snoc, ← HZ.out, hlow, if_neg (by rw [hkp]; decide), List.append_nil, HES.out])
        clear hz2 hlow hkp
        go_upto_region 6 with fail
        rw [← HZ.out]
        clear hz
        go_wp2_with fail
        go_roundw
        case rel => exact ⟨k + 1, es, by omega, by go_num, HN.out.symm, hacc, hwr⟩
        case measure => simp [intOf]; omega
      · -- 32 to 32
        have g1 : decide ((65 : Int) ≤ z) = false := by simp; omega
        have g2 : decide (z ≤ 90) = true := by simp; omega
        have g3 : decide ((97 : Int) ≤ z) = false := by simp; omega
        have g4 : decide (z ≤ 122) = true := by simp; omega
        have g5 : decide ((48 : Int) ≤ z) = false := by simp; omega
        have g6 : decide (z ≤ 57) = true := by simp; omega
        have g7 : (z == 32) = true := by simp; omega
        have g8 : decide ((127 : Int) < z) = false := by simp; omega
        have hlow : lowZ z = z := by unfold lowZ; rw [if_neg (by omega)]
        have hkp : keepZ z = true := by unfold keepZ; simp; omega
        have HN := Lib.hid (show foldZ ((bytesZ s).take (k + 1)) = es ++ [z] from by rw [HTK.out, foldZ_snoc, ← HZ.out, hlow, if_pos hkp, HES.out])
        clear hz2 hlow hkp
        go_upto_region 6 with fail
        rw [← HZ.out]
        clear hz
        go_wp2_with (at_builtin; refine wp_append1D RByte.ok _ rfl _ _ 101 rfl w.heap.size 5 (.int .u8 0) 1 1 Tryz.underlying101 (by kernel_rfl) rfl (by decide) (fun _ => False) _ es rfl (hacc.keepAll RByte.ok (Kept.alloc _ _ _)) ⟨_, 0, none⟩ 1 [.int .u8 z] rfl rfl (World.news_of_block (cs := #[.int .u8 z]) (heap_alloc_new wo _)) (by simp [Value.oneCell']) z rfl (by have := HM.out; omega) (by decide) (by simp; omega) ?_)
        intro p8 c8 w9 hac9 hgrow hdr
        have hk9 : AllD w w9 := ⟨(hwr.1.then_alloc _).grown hgrow (fun k hk => Or.inl (hacc.lt k hk).1), Nat.le_trans hwr.2 hdr⟩
        clear hgrow hacc
        go_wp2_with fail
        go_roundw
        case rel => exact ⟨k + 1, es ++ [z], by omega, by go_num, HN.out.symm, hac9, hk9⟩
        case measure => simp [intOf]; omega
      · -- 33 to 47
        have g1 : decide ((65 : Int) ≤ z) = false := by simp; omega
        have g2 : decide (z ≤ 90) = true := by simp; omega
        have g3 : decide ((97 : Int) ≤ z) = false := by simp; omega
        have g4 : decide (z ≤ 122) = true := by simp; omega
        have g5 : decide ((48 : Int) ≤ z) = false := by simp; omega
        have g6 : decide (z ≤ 57) = true := by simp; omega
        have g7 : (z == 32) = false := by simp; omega
        have g8 : decide ((127 : Int) < z) = false := by simp; omega
        have hlow : lowZ z = z := by unfold lowZ; rw [if_neg (by omega)]
        have hkp : keepZ z = false := by unfold keepZ; simp; omega
        have HN := Lib.hid (show foldZ ((bytesZ s).take (k + 1)) = es from by rw [HTK.out, foldZ_snoc, ← HZ.out, hlow, if_neg (by rw [hkp]; decide), List.append_nil, HES.out])
        clear hz2 hlow hkp
        go_upto_region 6 with fail
        rw [← HZ.out]
        clear hz
        go_wp2_with fail
        go_roundw
        case rel => exact ⟨k + 1, es, by omega, by go_num, HN.out.symm, hacc, hwr⟩
        case measure => simp [intOf]; omega
      · -- 48 to 57
        have g1 : decide ((65 : Int) ≤ z) = false := by simp; omega
        have g2 : decide (z ≤ 90) = true := by simp; omega
        have g3 : decide ((97 : Int) ≤ z) = false := by simp; omega
        have g4 : decide (z ≤ 122) = true := by simp; omega
        have g5 : decide ((48 : Int) ≤ z) = true := by simp; omega
        have g6 : decide (z ≤ 57) = true := by simp; omega
        have g7 : (z == 32) = false := by simp; omega
        have g8 : decide ((127 : Int) < z) = false := by simp; omega
        have hlow : lowZ z = z := by unfold lowZ; rw [if_neg (by omega)]
        have hkp : keepZ z = true := by unfold keepZ; simp; omega
        have HN := Lib.hid (show foldZ ((bytesZ s).take (k + 1)) = es ++ [z] from by rw [HTK.out, foldZ_snoc, ← HZ.out, hlow, if_pos hkp, HES.out])
        clear hz2 hlow hkp
        go_upto_region 6 with fail
        rw [← HZ.out]
        clear hz
        go_wp2_with (at_builtin; refine wp_append1D RByte.ok _ rfl _ _ 101 rfl w.heap.size 5 (.int .u8 0) 1 1 Tryz.underlying101 (by kernel_rfl) rfl (by decide) (fun _ => False) _ es rfl (hacc.keepAll RByte.ok (Kept.alloc _ _ _)) ⟨_, 0, none⟩ 1 [.int .u8 z] rfl rfl (World.news_of_block (cs := #[.int .u8 z]) (heap_alloc_new wo _)) (by simp [Value.oneCell']) z rfl (by have := HM.out; omega) (by decide) (by simp; omega) ?_)
        intro p8 c8 w9 hac9 hgrow hdr
        have hk9 : AllD w w9 := ⟨(hwr.1.then_alloc _).grown hgrow (fun k hk => Or.inl (hacc.lt k hk).1), Nat.le_trans hwr.2 hdr⟩
        clear hgrow hacc
        go_wp2_with fail
        go_roundw
        case rel => exact ⟨k + 1, es ++ [z], by omega, by go_num, HN.out.symm, hac9, hk9⟩
        case measure => simp [intOf]; omega
      · -- 58 to 64
        have g1 : decide ((65 : Int) ≤ z) = false := by simp; omega
        have g2 : decide (z ≤ 90) = true := by simp; omega
        have g3 : decide ((97 : Int) ≤ z) = false := by simp; omega
        have g4 : decide (z ≤ 122) = true := by simp; omega
        have g5 : decide ((48 : Int) ≤ z) = true := by simp; omega
        have g6 : decide (z ≤ 57) = false := by simp; omega
        have g7 : (z == 32) = false := by simp; omega
        have g8 : decide ((127 : Int) < z) = false := by simp; omega
        have hlow : lowZ z = z := by unfold lowZ; rw [if_neg (by omega)]
        have hkp : keepZ z = false := by unfold keepZ; simp; omega
        have HN := Lib.hid (show foldZ ((bytesZ s).take (k + 1)) = es from by rw [HTK.out, foldZ_snoc, ← HZ.out, hlow, if_neg (by rw [hkp]; decide), List.append_nil, HES.out])
        clear hz2 hlow hkp
        go_upto_region 6 with fail
        rw [← HZ.out]
        clear hz
        go_wp2_with fail
        go_roundw
        case rel => exact ⟨k + 1, es, by omega, by go_num, HN.out.symm, hacc, hwr⟩
        case measure => simp [intOf]; omega
      · -- 65 to 90
        have g1 : decide ((65 : Int) ≤ z) = true := by simp; omega
        have g2 : decide (z ≤ 90) = true := by simp; omega
        obtain ⟨y, hy⟩ : ∃ y : Int, y = z + 32 := ⟨_, rfl⟩
        have f0 : IntKind.u8.wrap (z + 32) = y := by rw [IntWalk.u8_in _ (by omega), hy]
        have g3 : decide ((97 : Int) ≤ y) = true := by simp; omega
        have g4 : decide (y ≤ 122) = true := by simp; omega
        have g5 : decide ((48 : Int) ≤ y) = true := by simp; omega
        have g6 : decide (y ≤ 57) = false := by simp; omega
        have g7 : (y == 32) = false := by simp; omega
        have g8 : decide ((127 : Int) < y) = false := by simp; omega
        have hlow : lowZ z = y := by unfold lowZ; rw [if_pos (by omega), hy]
        have hkp : keepZ y = true := by unfold keepZ; simp; omega
        have HN := Lib.hid (show foldZ ((bytesZ s).take (k + 1)) = es ++ [y] from by rw [HTK.out, foldZ_snoc, ← HZ.out, hlow, if_pos hkp, HES.out])
        clear hz2 hlow hkp hy
        go_upto_region 6 with fail
        rw [← HZ.out]
        clear hz
        go_wp2_with (at_builtin; refine wp_append1D RByte.ok _ rfl _ _ 101 rfl w.heap.size 5 (.int .u8 0) 1 1 Tryz.underlying101 (by kernel_rfl) rfl (by decide) (fun _ => False) _ es rfl (hacc.keepAll RByte.ok (Kept.alloc _ _ _)) ⟨_, 0, none⟩ 1 [.int .u8 y] rfl rfl (World.news_of_block (cs := #[.int .u8 y]) (heap_alloc_new wo _)) (by simp [Value.oneCell']) y rfl (by have := HM.out; omega) (by decide) (by simp; omega) ?_)
        intro p8 c8 w9 hac9 hgrow hdr
        have hk9 : AllD w w9 := ⟨(hwr.1.then_alloc _).grown hgrow (fun k hk => Or.inl (hacc.lt k hk).1), Nat.le_trans hwr.2 hdr⟩
        clear hgrow hacc
        go_wp2_with fail
        go_roundw
        case rel => exact ⟨k + 1, es ++ [y], by omega, by go_num, HN.out.symm, hac9, hk9⟩
        case measure => simp [intOf]; omega
      · -- 91 to 96
        have g1 : decide ((65 : Int) ≤ z) = true := by simp; omega
        have g2 : decide (z ≤ 90) = false := by simp; omega
        have g3 : decide ((97 : Int) ≤ z) = false := by simp; omega
        have g4 : decide (z ≤ 122) = true := by simp; omega
        have g5 : decide ((48 : Int) ≤ z) = true := by simp; omega
        have g6 : decide (z ≤ 57) = false := by simp; omega
        have g7 : (z == 32) = false := by simp; omega
        have g8 : decide ((127 : Int) < z) = false := by simp; omega
        have hlow : lowZ z = z := by unfold lowZ; rw [if_neg (by omega)]
        have hkp : keepZ z = false := by unfold keepZ; simp; omega
        have HN := Lib.hid (show foldZ ((bytesZ s).take (k + 1)) = es from by rw [HTK.out, foldZ_snoc, ← HZ.out, hlow, if_neg (by rw [hkp]; decide), List.append_nil, HES.out])
        clear hz2 hlow hkp
        go_upto_region 6 with fail
        rw [← HZ.out]
        clear hz
        go_wp2_with fail
        go_roundw
        case rel => exact ⟨k + 1, es, by omega, by go_num, HN.out.symm, hacc, hwr⟩
        case measure => simp [intOf]; omega
      · -- 97 to 122
        have g1 : decide ((65 : Int) ≤ z) = true := by simp; omega
        have g2 : decide (z ≤ 90) = false := by simp; omega
        have g3 : decide ((97 : Int) ≤ z) = true := by simp; omega
        have g4 : decide (z ≤ 122) = true := by simp; omega
        have g5 : decide ((48 : Int) ≤ z) = true := by simp; omega
        have g6 : decide (z ≤ 57) = false := by simp; omega
        have g7 : (z == 32) = false := by simp; omega
        have g8 : decide ((127 : Int) < z) = false := by simp; omega
        have hlow : lowZ z = z := by unfold lowZ; rw [if_neg (by omega)]
        have hkp : keepZ z = true := by unfold keepZ; simp; omega
        have HN := Lib.hid (show foldZ ((bytesZ s).take (k + 1)) = es ++ [z] from by rw [HTK.out, foldZ_snoc, ← HZ.out, hlow, if_pos hkp, HES.out])
        clear hz2 hlow hkp
        go_upto_region 6 with fail
        rw [← HZ.out]
        clear hz
        go_wp2_with (at_builtin; refine wp_append1D RByte.ok _ rfl _ _ 101 rfl w.heap.size 5 (.int .u8 0) 1 1 Tryz.underlying101 (by kernel_rfl) rfl (by decide) (fun _ => False) _ es rfl (hacc.keepAll RByte.ok (Kept.alloc _ _ _)) ⟨_, 0, none⟩ 1 [.int .u8 z] rfl rfl (World.news_of_block (cs := #[.int .u8 z]) (heap_alloc_new wo _)) (by simp [Value.oneCell']) z rfl (by have := HM.out; omega) (by decide) (by simp; omega) ?_)
        intro p8 c8 w9 hac9 hgrow hdr
        have hk9 : AllD w w9 := ⟨(hwr.1.then_alloc _).grown hgrow (fun k hk => Or.inl (hacc.lt k hk).1), Nat.le_trans hwr.2 hdr⟩
        clear hgrow hacc
        go_wp2_with fail
        go_roundw
        case rel => exact ⟨k + 1, es ++ [z], by omega, by go_num, HN.out.symm, hac9, hk9⟩
        case measure => simp [intOf]; omega
      · -- 123 to 127
        have g1 : decide ((65 : Int) ≤ z) = true := by simp; omega
        have g2 : decide (z ≤ 90) = false := by simp; omega
        have g3 : decide ((97 : Int) ≤ z) = true := by simp; omega
        have g4 : decide (z ≤ 122) = false := by simp; omega
        have g5 : decide ((48 : Int) ≤ z) = true := by simp; omega
        have g6 : decide (z ≤ 57) = false := by simp; omega
        have g7 : (z == 32) = false := by simp; omega
        have g8 : decide ((127 : Int) < z) = false := by simp; omega
        have hlow : lowZ z = z := by unfold lowZ; rw [if_neg (by omega)]
        have hkp : keepZ z = false := by unfold keepZ; simp; omega
        have HN := Lib.hid (show foldZ ((bytesZ s).take (k + 1)) = es from by rw [HTK.out, foldZ_snoc, ← HZ.out, hlow, if_neg (by rw [hkp]; decide), List.append_nil, HES.out])
        clear hz2 hlow hkp
        go_upto_region 6 with fail
        rw [← HZ.out]
        clear hz
        go_wp2_with fail
        go_roundw
        case rel => exact ⟨k + 1, es, by omega, by go_num, HN.out.symm, hacc, hwr⟩
        case measure => simp [intOf]; omega
      · -- 128 to 255
        have g1 : decide ((65 : Int) ≤ z) = true := by simp; omega
        have g2 : decide (z ≤ 90) = false := by simp; omega
        have g3 : decide ((97 : Int) ≤ z) = true := by simp; omega
        have g4 : decide (z ≤ 122) = false := by simp; omega
        have g5 : decide ((48 : Int) ≤ z) = true := by simp; omega
        have g6 : decide (z ≤ 57) = false := by simp; omega
        have g7 : (z == 32) = false := by simp; omega
        have g8 : decide ((127 : Int) < z) = true := by simp; omega
        have hlow : lowZ z = z := by unfold lowZ; rw [if_neg (by omega)]
        have hkp : keepZ z = true := by unfold keepZ; simp; omega
        have HN := Lib.hid (show foldZ ((bytesZ s).take (k + 1)) = es ++ [z] from by rw [HTK.out, foldZ_snoc, ← HZ.out, hlow, if_pos hkp, HES.out])
        clear hz2 hlow hkp
        go_upto_region 6 with fail
        rw [← HZ.out]
        clear hz
        go_wp2_with (at_builtin; refine wp_append1D RByte.ok _ rfl _ _ 101 rfl w.heap.size 5 (.int .u8 0) 1 1 Tryz.underlying101 (by kernel_rfl) rfl (by decide) (fun _ => False) _ es rfl (hacc.keepAll RByte.ok (Kept.alloc _ _ _)) ⟨_, 0, none⟩ 1 [.int .u8 z] rfl rfl (World.news_of_block (cs := #[.int .u8 z]) (heap_alloc_new wo _)) (by simp [Value.oneCell']) z rfl (by have := HM.out; omega) (by decide) (by simp; omega) ?_)
        intro p8 c8 w9 hac9 hgrow hdr
        have hk9 : AllD w w9 := ⟨(hwr.1.then_alloc _).grown hgrow (fun k hk => Or.inl (hacc.lt k hk).1), Nat.le_trans hwr.2 hdr⟩
        clear hgrow hacc
        go_wp2_with fail
        go_roundw
        case rel => exact ⟨k + 1, es ++ [z], by omega, by go_num, HN.out.symm, hac9, hk9⟩
        case measure => simp [intOf]; omega
    · have d0 : decide ((k : Int) < (s.size : Int)) = false := by simp; omega
      obtain ⟨av', cv', hv', hsl⟩ := hacc.sl RByte.ok (by decide) (G := fun _ => True) (fun _ h => h.elim) (fun _ _ => trivial)
      rw [← HM.out] at hv' hsl
      injection hv' with q1 q2 q3
      subst q1 q3
      have hconv := conv_bytes cv hsl
      have hee : es = foldZ (bytesZ s) := by rw [HES.out, List.take_of_length_le (by rw [bytesZ_len]; omega)]
      have HE := Lib.hid (show strOfNums es = foldB s by rw [hee]; rfl)
      clear hsl hee q2 hacc
      go_wp2_with fail
      go_ret
      exact ⟨by rw [← HE.out]; rfl, hwr⟩

def foldSet : ByteArray := ⟨#[97, 98, 99, 100, 101, 102, 103, 104, 105, 106, 107, 108, 109, 110, 111, 112, 113, 114, 115, 116, 117, 118, 119, 120, 121, 122, 48, 49, 50, 51, 52, 53, 54, 55, 56, 57, 32]⟩
theorem idx_in (c : Int) (w : World) (h : (97 ≤ c ∧ c ≤ 122) ∨ (48 ≤ c ∧ c ≤ 57) ∨ c = 32) : Calls Tryz.prog 78 #[.string foldSet, .int .u8 c] w fun e w' => (∃ r : Int, e = .returned (.int .i64 r) ∧ 0 ≤ r) ∧ w = w' := by
  refine (Tryz.strings_IndexByte foldSet c w).mono ?_
  rintro e w' ⟨rfl, rfl⟩
  refine ⟨⟨_, rfl, ?_⟩, rfl⟩
  have hall : ∀ n : Nat, n < 256 → (97 ≤ n ∧ n ≤ 122) ∨ (48 ≤ n ∧ n ≤ 57) ∨ n = 32 → 0 ≤ Lib.indexByte foldSet.data.toList n.toUInt8 := by decide +kernel
  exact hall c.toNat (by omega) (by omega)
theorem idx_out (c : Int) (w : World) (h : 0 ≤ c ∧ c ≤ 127 ∧ ¬ ((97 ≤ c ∧ c ≤ 122) ∨ (48 ≤ c ∧ c ≤ 57) ∨ c = 32)) : Calls Tryz.prog 78 #[.string foldSet, .int .u8 c] w fun e w' => (∃ r : Int, e = .returned (.int .i64 r) ∧ r < 0) ∧ w = w' := by
  refine (Tryz.strings_IndexByte foldSet c w).mono ?_
  rintro e w' ⟨rfl, rfl⟩
  refine ⟨⟨_, rfl, ?_⟩, rfl⟩
  have hall : ∀ n : Nat, n < 128 → ¬ ((97 ≤ n ∧ n ≤ 122) ∨ (48 ≤ n ∧ n ≤ 57) ∨ n = 32) → Lib.indexByte foldSet.data.toList n.toUInt8 < 0 := by decide +kernel
  exact hall c.toNat (by omega) (by omega)

set_option maxRecDepth 100000 in
set_option maxHeartbeats 12800000 in
theorem foldR_any (s : ByteArray) (w : World) (hs : s.size ≤ 1000000) :
    Calls Tryz.prog 49 #[.string s] w fun e w' => e = .returned (.string (foldB s)) ∧ AllD w w' := by
  go_enter Tryz.func49, Tryz.ntmps49
  go_wp2_with fail
  go_loopw [3, 8] (fun v i wr => ∃ (k : Nat) (es : List Int), k ≤ s.size ∧ i = .int .i64 k ∧ es = foldZ ((bytesZ s).take k) ∧ Acc RByte 1 5 (fun _ => False) w.heap.size wr v es ∧ AllD w wr) (fun _ i _ => s.size - (intOf i).toNat)
  case atStart => exact ⟨0, [], Nat.zero_le _, rfl, by simp [foldZ], Acc.nil _ _ _ _ _ _, AllD.refl _⟩
  case round =>
    obtain ⟨k, es, hk, rfl, hes, hacc, hwr⟩ := hrel
    obtain ⟨wo, rfl⟩ : ∃ wo : World, wo = wr := ⟨_, rfl⟩
    have hel : es.length ≤ k := by
      rw [hes]
      have h1 := foldZ_len ((bytesZ s).take k)
      have h2 := List.length_take_le k (bytesZ s)
      omega
    have HES := Lib.hid hes
    clear hes
    obtain ⟨av, cv, rfl, hcv⟩ := hacc.form
    obtain ⟨m, hm⟩ : ∃ m, m = es.length := ⟨_, rfl⟩
    have HM := Lib.hid hm
    rw [← hm] at hacc hel hcv ⊢
    clear hm
    have hzo := hwr.1.size
    by_cases hlt : k < s.size
    · have HTK := Lib.hid (bytesZ_take hlt)
      have hzb := (s[k]'hlt).toNat_lt
      obtain ⟨z, hz⟩ : ∃ z : Int, z = ((s[k]'hlt).toNat : Int) := ⟨_, rfl⟩
      have hz1 : 0 ≤ z ∧ z ≤ 255 := by omega
      have HZ := Lib.hid hz
      have d0 : decide ((k : Int) < (s.size : Int)) = true := by simp; omega
      clear hzb
      have hsplit : (0 ≤ z ∧ z ≤ 31) ∨ (32 ≤ z ∧ z ≤ 32) ∨ (33 ≤ z ∧ z ≤ 47) ∨ (48 ≤ z ∧ z ≤ 57) ∨ (58 ≤ z ∧ z ≤ 64) ∨ (65 ≤ z ∧ z ≤ 90) ∨ (91 ≤ z ∧ z ≤ 96) ∨ (97 ≤ z ∧ z ≤ 122) ∨ (123 ≤ z ∧ z ≤ 127) ∨ (128 ≤ z ∧ z ≤ 255) := by omega
      clear hz1
      rcases hsplit with hz2 | hz2 | hz2 | hz2 | hz2 | hz2 | hz2 | hz2 | hz2 | hz2
      · -- 0 to 31
        have g1 : decide ((65 : Int) ≤ z) = false := by simp; omega
        have g2 : decide (z ≤ 90) = true := by simp; omega
        have g8 : decide ((127 : Int) < z) = false := by simp; omega
        have HIX := Lib.hid (fun wx : World => idx_out z wx (by omega))
        have hlow : lowZ z = z := by unfold lowZ; rw [if_neg (by omega)]
        have hkp : keepZ z = false := by unfold keepZ; simp; omega
        have HN := Lib.hid (show foldZ ((bytesZ s).take (k + 1)) = es from by rw [HTK.out, foldZ_snoc, ← HZ.out, hlow, if_neg (by rw [hkp]; decide), List.append_nil, HES.out])
        clear hz2 hlow hkp
        go_upto_region 6 with fail
        rw [← HZ.out]
        clear hz
        go_wp2_with fail
        refine (HIX.out _).mono ?_
        rintro e w' ⟨⟨r, rfl, hr⟩, hh⟩
        subst hh
        have g9 : decide ((0 : Int) ≤ r) = false := by simp; omega
        clear hr
        go_wp2_with fail
        go_roundw
        case rel => exact ⟨k + 1, es, by omega, by go_num, HN.out.symm, hacc, hwr⟩
        case measure => simp [intOf]; omega
      · -- 32 to 32
        have g1 : decide ((65 : Int) ≤ z) = false := by simp; omega
        have g2 : decide (z ≤ 90) = true := by simp; omega
        have g8 : decide ((127 : Int) < z) = false := by simp; omega
        have HIX := Lib.hid (fun wx : World => idx_in z wx (by omega))
        have hlow : lowZ z = z := by unfold lowZ; rw [if_neg (by omega)]
        have hkp : keepZ z = true := by unfold keepZ; simp; omega
        have HN := Lib.hid (show foldZ ((bytesZ s).take (k + 1)) = es ++ [z] from by rw [HTK.out, foldZ_snoc, ← HZ.out, hlow, if_pos hkp, HES.out])
        clear hz2 hlow hkp
        go_upto_region 6 with fail
        rw [← HZ.out]
        clear hz
        go_wp2_with fail
        refine (HIX.out _).mono ?_
        rintro e w' ⟨⟨r, rfl, hr⟩, hh⟩
        subst hh
        have g9 : decide ((0 : Int) ≤ r) = true := by simp; omega
        clear hr
        go_wp2_with (at_builtin; refine wp_append1D RByte.ok _ rfl _ _ 101 rfl w.heap.size 5 (.int .u8 0) 1 1 Tryz.underlying101 (by kernel_rfl) rfl (by decide) (fun _ => False) _ es rfl (hacc.keepAll RByte.ok (Kept.alloc _ _ _)) ⟨_, 0, none⟩ 1 [.int .u8 z] rfl rfl (World.news_of_block (cs := #[.int .u8 z]) (heap_alloc_new wo _)) (by simp [Value.oneCell']) z rfl (by have := HM.out; omega) (by decide) (by simp; omega) ?_)
        intro p8 c8 w9 hac9 hgrow hdr
        have hk9 : AllD w w9 := ⟨(hwr.1.then_alloc _).grown hgrow (fun k hk => Or.inl (hacc.lt k hk).1), Nat.le_trans hwr.2 hdr⟩
        clear hgrow hacc
        go_wp2_with fail
        go_roundw
        case rel => exact ⟨k + 1, es ++ [z], by omega, by go_num, HN.out.symm, hac9, hk9⟩
        case measure => simp [intOf]; omega
      · -- 33 to 47
        have g1 : decide ((65 : Int) ≤ z) = false := by simp; omega
        have g2 : decide (z ≤ 90) = true := by simp; omega
        have g8 : decide ((127 : Int) < z) = false := by simp; omega
        have HIX := Lib.hid (fun wx : World => idx_out z wx (by omega))
        have hlow : lowZ z = z := by unfold lowZ; rw [if_neg (by omega)]
        have hkp : keepZ z = false := by unfold keepZ; simp; omega
        have HN := Lib.hid (show foldZ ((bytesZ s).take (k + 1)) = es from by rw [HTK.out, foldZ_snoc, ← HZ.out, hlow, if_neg (by rw [hkp]; decide), List.append_nil, HES.out])
        clear hz2 hlow hkp
        go_upto_region 6 with fail
        rw [← HZ.out]
        clear hz
        go_wp2_with fail
        refine (HIX.out _).mono ?_
        rintro e w' ⟨⟨r, rfl, hr⟩, hh⟩
        subst hh
        have g9 : decide ((0 : Int) ≤ r) = false := by simp; omega
        clear hr
        go_wp2_with fail
        go_roundw
        case rel => exact ⟨k + 1, es, by omega, by go_num, HN.out.symm, hacc, hwr⟩
        case measure => simp [intOf]; omega
      · -- 48 to 57
        have g1 : decide ((65 : Int) ≤ z) = false := by simp; omega
        have g2 : decide (z ≤ 90) = true := by simp; omega
        have g8 : decide ((127 : Int) < z) = false := by simp; omega
        have HIX := Lib.hid (fun wx : World => idx_in z wx (by omega))
        have hlow : lowZ z = z := by unfold lowZ; rw [if_neg (by omega)]
        have hkp : keepZ z = true := by unfold keepZ; simp; omega
        have HN := Lib.hid (show foldZ ((bytesZ s).take (k + 1)) = es ++ [z] from by rw [HTK.out, foldZ_snoc, ← HZ.out, hlow, if_pos hkp, HES.out])
        clear hz2 hlow hkp
        go_upto_region 6 with fail
        rw [← HZ.out]
        clear hz
        go_wp2_with fail
        refine (HIX.out _).mono ?_
        rintro e w' ⟨⟨r, rfl, hr⟩, hh⟩
        subst hh
        have g9 : decide ((0 : Int) ≤ r) = true := by simp; omega
        clear hr
        go_wp2_with (at_builtin; refine wp_append1D RByte.ok _ rfl _ _ 101 rfl w.heap.size 5 (.int .u8 0) 1 1 Tryz.underlying101 (by kernel_rfl) rfl (by decide) (fun _ => False) _ es rfl (hacc.keepAll RByte.ok (Kept.alloc _ _ _)) ⟨_, 0, none⟩ 1 [.int .u8 z] rfl rfl (World.news_of_block (cs := #[.int .u8 z]) (heap_alloc_new wo _)) (by simp [Value.oneCell']) z rfl (by have := HM.out; omega) (by decide) (by simp; omega) ?_)
        intro p8 c8 w9 hac9 hgrow hdr
        have hk9 : AllD w w9 := ⟨(hwr.1.then_alloc _).grown hgrow (fun k hk => Or.inl (hacc.lt k hk).1), Nat.le_trans hwr.2 hdr⟩
        clear hgrow hacc
        go_wp2_with fail
        go_roundw
        case rel => exact ⟨k + 1, es ++ [z], by omega, by go_num, HN.out.symm, hac9, hk9⟩
        case measure => simp [intOf]; omega
      · -- 58 to 64
        have g1 : decide ((65 : Int) ≤ z) = false := by simp; omega
        have g2 : decide (z ≤ 90) = true := by simp; omega
        have g8 : decide ((127 : Int) < z) = false := by simp; omega
        have HIX := Lib.hid (fun wx : World => idx_out z wx (by omega))
        have hlow : lowZ z = z := by unfold lowZ; rw [if_neg (by omega)]
        have hkp : keepZ z = false := by unfold keepZ; simp; omega
        have HN := Lib.hid (show foldZ ((bytesZ s).take (k + 1)) = es from by rw [HTK.out, foldZ_snoc, ← HZ.out, hlow, if_neg (by rw [hkp]; decide), List.append_nil, HES.out])
        clear hz2 hlow hkp
        go_upto_region 6 with fail
        rw [← HZ.out]
        clear hz
        go_wp2_with fail
        refine (HIX.out _).mono ?_
        rintro e w' ⟨⟨r, rfl, hr⟩, hh⟩
        subst hh
        have g9 : decide ((0 : Int) ≤ r) = false := by simp; omega
        clear hr
        go_wp2_with fail
        go_roundw
        case rel => exact ⟨k + 1, es, by omega, by go_num, HN.out.symm, hacc, hwr⟩
        case measure => simp [intOf]; omega
      · -- 65 to 90
        have g1 : decide ((65 : Int) ≤ z) = true := by simp; omega
        have g2 : decide (z ≤ 90) = true := by simp; omega
        obtain ⟨y, hy⟩ : ∃ y : Int, y = z + 32 := ⟨_, rfl⟩
        have f0 : IntKind.u8.wrap (z + 32) = y := by rw [IntWalk.u8_in _ (by omega), hy]
        have g8 : decide ((127 : Int) < y) = false := by simp; omega
        have HIX := Lib.hid (fun wx : World => idx_in y wx (by omega))
        have hlow : lowZ z = y := by unfold lowZ; rw [if_pos (by omega), hy]
        have hkp : keepZ y = true := by unfold keepZ; simp; omega
        have HN := Lib.hid (show foldZ ((bytesZ s).take (k + 1)) = es ++ [y] from by rw [HTK.out, foldZ_snoc, ← HZ.out, hlow, if_pos hkp, HES.out])
        clear hz2 hlow hkp hy
        go_upto_region 6 with fail
        rw [← HZ.out]
        clear hz
        go_wp2_with fail
        refine (HIX.out _).mono ?_
        rintro e w' ⟨⟨r, rfl, hr⟩, hh⟩
        subst hh
        have g9 : decide ((0 : Int) ≤ r) = true := by simp; omega
        clear hr
        go_wp2_with (at_builtin; refine wp_append1D RByte.ok _ rfl _ _ 101 rfl w.heap.size 5 (.int .u8 0) 1 1 Tryz.underlying101 (by kernel_rfl) rfl (by decide) (fun _ => False) _ es rfl (hacc.keepAll RByte.ok (Kept.alloc _ _ _)) ⟨_, 0, none⟩ 1 [.int .u8 y] rfl rfl (World.news_of_block (cs := #[.int .u8 y]) (heap_alloc_new wo _)) (by simp [Value.oneCell']) y rfl (by have := HM.out; omega) (by decide) (by simp; omega) ?_)
        intro p8 c8 w9 hac9 hgrow hdr
        have hk9 : AllD w w9 := ⟨(hwr.1.then_alloc _).grown hgrow (fun k hk => Or.inl (hacc.lt k hk).1), Nat.le_trans hwr.2 hdr⟩
        clear hgrow hacc
        go_wp2_with fail
        go_roundw
        case rel => exact ⟨k + 1, es ++ [y], by omega, by go_num, HN.out.symm, hac9, hk9⟩
        case measure => simp [intOf]; omega
      · -- 91 to 96
        have g1 : decide ((65 : Int) ≤ z) = true := by simp; omega
        have g2 : decide (z ≤ 90) = false := by simp; omega
        have g8 : decide ((127 : Int) < z) = false := by simp; omega
        have HIX := Lib.hid (fun wx : World => idx_out z wx (by omega))
        have hlow : lowZ z = z := by unfold lowZ; rw [if_neg (by omega)]
        have hkp : keepZ z = false := by unfold keepZ; simp; omega
        have HN := Lib.hid (show foldZ ((bytesZ s).take (k + 1)) = es from by rw [HTK.out, foldZ_snoc, ← HZ.out, hlow, if_neg (by rw [hkp]; decide), List.append_nil, HES.out])
        clear hz2 hlow hkp
        go_upto_region 6 with fail
        rw [← HZ.out]
        clear hz
        go_wp2_with fail
        refine (HIX.out _).mono ?_
        rintro e w' ⟨⟨r, rfl, hr⟩, hh⟩
        subst hh
        have g9 : decide ((0 : Int) ≤ r) = false := by simp; omega
        clear hr
        go_wp2_with fail
        go_roundw
        case rel => exact ⟨k + 1, es, by omega, by go_num, HN.out.symm, hacc, hwr⟩
        case measure => simp [intOf]; omega
      · -- 97 to 122
        have g1 : decide ((65 : Int) ≤ z) = true := by simp; omega
        have g2 : decide (z ≤ 90) = false := by simp; omega
        have g8 : decide ((127 : Int) < z) = false := by simp; omega
        have HIX := Lib.hid (fun wx : World => idx_in z wx (by omega))
        have hlow : lowZ z = z := by unfold lowZ; rw [if_neg (by omega)]
        have hkp : keepZ z = true := by unfold keepZ; simp; omega
        have HN := Lib.hid (show foldZ ((bytesZ s).take (k + 1)) = es ++ [z] from by rw [HTK.out, foldZ_snoc, ← HZ.out, hlow, if_pos hkp, HES.out])
        clear hz2 hlow hkp
        go_upto_region 6 with fail
        rw [← HZ.out]
        clear hz
        go_wp2_with fail
        refine (HIX.out _).mono ?_
        rintro e w' ⟨⟨r, rfl, hr⟩, hh⟩
        subst hh
        have g9 : decide ((0 : Int) ≤ r) = true := by simp; omega
        clear hr
        go_wp2_with (at_builtin; refine wp_append1D RByte.ok _ rfl _ _ 101 rfl w.heap.size 5 (.int .u8 0) 1 1 Tryz.underlying101 (by kernel_rfl) rfl (by decide) (fun _ => False) _ es rfl (hacc.keepAll RByte.ok (Kept.alloc _ _ _)) ⟨_, 0, none⟩ 1 [.int .u8 z] rfl rfl (World.news_of_block (cs := #[.int .u8 z]) (heap_alloc_new wo _)) (by simp [Value.oneCell']) z rfl (by have := HM.out; omega) (by decide) (by simp; omega) ?_)
        intro p8 c8 w9 hac9 hgrow hdr
        have hk9 : AllD w w9 := ⟨(hwr.1.then_alloc _).grown hgrow (fun k hk => Or.inl (hacc.lt k hk).1), Nat.le_trans hwr.2 hdr⟩
        clear hgrow hacc
        go_wp2_with fail
        go_roundw
        case rel => exact ⟨k + 1, es ++ [z], by omega, by go_num, HN.out.symm, hac9, hk9⟩
        case measure => simp [intOf]; omega
      · -- 123 to 127
        have g1 : decide ((65 : Int) ≤ z) = true := by simp; omega
        have g2 : decide (z ≤ 90) = false := by simp; omega
        have g8 : decide ((127 : Int) < z) = false := by simp; omega
        have HIX := Lib.hid (fun wx : World => idx_out z wx (by omega))
        have hlow : lowZ z = z := by unfold lowZ; rw [if_neg (by omega)]
        have hkp : keepZ z = false := by unfold keepZ; simp; omega
        have HN := Lib.hid (show foldZ ((bytesZ s).take (k + 1)) = es from by rw [HTK.out, foldZ_snoc, ← HZ.out, hlow, if_neg (by rw [hkp]; decide), List.append_nil, HES.out])
        clear hz2 hlow hkp
        go_upto_region 6 with fail
        rw [← HZ.out]
        clear hz
        go_wp2_with fail
        refine (HIX.out _).mono ?_
        rintro e w' ⟨⟨r, rfl, hr⟩, hh⟩
        subst hh
        have g9 : decide ((0 : Int) ≤ r) = false := by simp; omega
        clear hr
        go_wp2_with fail
        go_roundw
        case rel => exact ⟨k + 1, es, by omega, by go_num, HN.out.symm, hacc, hwr⟩
        case measure => simp [intOf]; omega
      · -- 128 to 255
        have g1 : decide ((65 : Int) ≤ z) = true := by simp; omega
        have g2 : decide (z ≤ 90) = false := by simp; omega
        have g8 : decide ((127 : Int) < z) = true := by simp; omega
        have hlow : lowZ z = z := by unfold lowZ; rw [if_neg (by omega)]
        have hkp : keepZ z = true := by unfold keepZ; simp; omega
        have HN := Lib.hid (show foldZ ((bytesZ s).take (k + 1)) = es ++ [z] from by rw [HTK.out, foldZ_snoc, ← HZ.out, hlow, if_pos hkp, HES.out])
        clear hz2 hlow hkp
        go_upto_region 6 with fail
        rw [← HZ.out]
        clear hz
        go_wp2_with (at_builtin; refine wp_append1D RByte.ok _ rfl _ _ 101 rfl w.heap.size 5 (.int .u8 0) 1 1 Tryz.underlying101 (by kernel_rfl) rfl (by decide) (fun _ => False) _ es rfl (hacc.keepAll RByte.ok (Kept.alloc _ _ _)) ⟨_, 0, none⟩ 1 [.int .u8 z] rfl rfl (World.news_of_block (cs := #[.int .u8 z]) (heap_alloc_new wo _)) (by simp [Value.oneCell']) z rfl (by have := HM.out; omega) (by decide) (by simp; omega) ?_)
        intro p8 c8 w9 hac9 hgrow hdr
        have hk9 : AllD w w9 := ⟨(hwr.1.then_alloc _).grown hgrow (fun k hk => Or.inl (hacc.lt k hk).1), Nat.le_trans hwr.2 hdr⟩
        clear hgrow hacc
        go_wp2_with fail
        go_roundw
        case rel => exact ⟨k + 1, es ++ [z], by omega, by go_num, HN.out.symm, hac9, hk9⟩
        case measure => simp [intOf]; omega
    · have d0 : decide ((k : Int) < (s.size : Int)) = false := by simp; omega
      obtain ⟨av', cv', hv', hsl⟩ := hacc.sl RByte.ok (by decide) (G := fun _ => True) (fun _ h => h.elim) (fun _ _ => trivial)
      rw [← HM.out] at hv' hsl
      injection hv' with q1 q2 q3
      subst q1 q3
      have hconv := conv_bytes cv hsl
      have hee : es = foldZ (bytesZ s) := by rw [HES.out, List.take_of_length_le (by rw [bytesZ_len]; omega)]
      have HE := Lib.hid (show strOfNums es = foldB s by rw [hee]; rfl)
      clear hsl hee q2 hacc
      go_wp2_with fail
      go_ret
      exact ⟨by rw [← HE.out]; rfl, hwr⟩
end Go.Proofs.YtbpbhpmkganefaaGreatDoor
