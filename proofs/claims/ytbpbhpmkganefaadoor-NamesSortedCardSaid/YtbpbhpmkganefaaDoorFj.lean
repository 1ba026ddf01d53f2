/- Particles of names; the first code point of a string; initial, by bytes. -/
import Derived.Test.YtbpbhpmkganefaaDoorFi
import Derived.Test.YtbpbhpmkganefaaDoorGb
import Derived.Test.YtbpbhpmkganefaaDoorKc
import Derived.Test.YtbpbhpmkganefaaDoorSt
namespace Go.Proofs.YtbpbhpmkganefaaDoor
open Go.RowKit

/-- da de del den der di la le van von -/
def parts : List ByteArray := [⟨#[100, 97]⟩, ⟨#[100, 101]⟩, ⟨#[100, 101, 108]⟩, ⟨#[100, 101, 110]⟩, ⟨#[100, 101, 114]⟩, ⟨#[100, 105]⟩, ⟨#[108, 97]⟩, ⟨#[108, 101]⟩, ⟨#[118, 97, 110]⟩, ⟨#[118, 111, 110]⟩]
def particB (x : ByteArray) : Bool := memB x parts
theorem lit_ne {a : ByteArray} {l : List UInt8} (h : ¬ a = ⟨l.toArray⟩) : (a.toList == l) = false := by
  rw [beq_eq_false_iff_ne]
  intro e
  rw [Lib.toList_data] at e
  apply h
  rw [← e]
theorem isParticle_any (x : ByteArray) (w : World) : Calls Tryd.prog 45 #[.string x] w fun e w' => e = .returned (.bool (particB x)) ∧ w = w' := by
  by_cases h0 : x = ⟨#[100, 97]⟩
  · subst h0
    go_enter Tryd.func45, Tryd.ntmps45
    go_wp2_with fail
    go_ret
    exact ⟨by simp [particB, memB, parts], rfl⟩
  · have d0 := lit_ne (l := [100, 97]) h0
    by_cases h1 : x = ⟨#[100, 101]⟩
    · subst h1
      go_enter Tryd.func45, Tryd.ntmps45
      go_wp2_with fail
      go_ret
      exact ⟨by simp [particB, memB, parts], rfl⟩
    · have d1 := lit_ne (l := [100, 101]) h1
      by_cases h2 : x = ⟨#[100, 101, 108]⟩
      · subst h2
        go_enter Tryd.func45, Tryd.ntmps45
        go_wp2_with fail
        go_ret
        exact ⟨by simp [particB, memB, parts], rfl⟩
      · have d2 := lit_ne (l := [100, 101, 108]) h2
        by_cases h3 : x = ⟨#[100, 101, 110]⟩
        · subst h3
          go_enter Tryd.func45, Tryd.ntmps45
          go_wp2_with fail
          go_ret
          exact ⟨by simp [particB, memB, parts], rfl⟩
        · have d3 := lit_ne (l := [100, 101, 110]) h3
          by_cases h4 : x = ⟨#[100, 101, 114]⟩
          · subst h4
            go_enter Tryd.func45, Tryd.ntmps45
            go_wp2_with fail
            go_ret
            exact ⟨by simp [particB, memB, parts], rfl⟩
          · have d4 := lit_ne (l := [100, 101, 114]) h4
            by_cases h5 : x = ⟨#[100, 105]⟩
            · subst h5
              go_enter Tryd.func45, Tryd.ntmps45
              go_wp2_with fail
              go_ret
              exact ⟨by simp [particB, memB, parts], rfl⟩
            · have d5 := lit_ne (l := [100, 105]) h5
              by_cases h6 : x = ⟨#[108, 97]⟩
              · subst h6
                go_enter Tryd.func45, Tryd.ntmps45
                go_wp2_with fail
                go_ret
                exact ⟨by simp [particB, memB, parts], rfl⟩
              · have d6 := lit_ne (l := [108, 97]) h6
                by_cases h7 : x = ⟨#[108, 101]⟩
                · subst h7
                  go_enter Tryd.func45, Tryd.ntmps45
                  go_wp2_with fail
                  go_ret
                  exact ⟨by simp [particB, memB, parts], rfl⟩
                · have d7 := lit_ne (l := [108, 101]) h7
                  by_cases h8 : x = ⟨#[118, 97, 110]⟩
                  · subst h8
                    go_enter Tryd.func45, Tryd.ntmps45
                    go_wp2_with fail
                    go_ret
                    exact ⟨by simp [particB, memB, parts], rfl⟩
                  · have d8 := lit_ne (l := [118, 97, 110]) h8
                    by_cases h9 : x = ⟨#[118, 111, 110]⟩
                    · subst h9
                      go_enter Tryd.func45, Tryd.ntmps45
                      go_wp2_with fail
                      go_ret
                      exact ⟨by simp [particB, memB, parts], rfl⟩
                    · have d9 := lit_ne (l := [118, 111, 110]) h9
                      have hp : particB x = false := memB_false (by simp only [parts, List.mem_cons, List.not_mem_nil, or_false, not_or]; exact ⟨h0, h1, h2, h3, h4, h5, h6, h7, h8, h9⟩)
                      rw [hp]
                      clear hp
                      go_enter Tryd.func45, Tryd.ntmps45
                      go_wp2_with fail
                      go_ret
                      exact ⟨rfl, rfl⟩

/-- What a slice of strings that a call of the library's has laid reads as. -/
theorem sl_strs {F : Nat → Prop} {w : World} {b : Nat} {ss : List ByteArray} {t : TypeId} (hz : ∀ s ∈ ss, s.size ≤ 1000000) (hF : F b) (h : w.heap[b]? = some (.cells (ss.map Value.string).toArray t (0, 0))) : Sl RStr 1 F w (some ⟨b, 0, none⟩) ss.length ss := by
  refine ⟨rfl, fun _ => ⟨b, 0, rfl, hF, fun i hi => ⟨[.string ss[i]], rfl, fun j hj => ?_, rfl, hz _ (List.getElem_mem _)⟩⟩⟩
  have h0 : j = 0 := by simpa using hj
  subst h0
  refine cell_at h ?_
  simp [hi]
def partsText : ByteArray := ⟨#[100, 97, 32, 100, 101, 32, 100, 101, 108, 32, 100, 101, 110, 32, 100, 101, 114, 32, 100, 105, 32, 108, 97, 32, 108, 101, 32, 118, 97, 110, 32, 118, 111, 110]⟩
theorem parts_fields : (Lib.fields partsText.data.toList).map (fun l => (⟨l.toArray⟩ : ByteArray)) = parts := by kernel_rfl
set_option maxHeartbeats 1600000 in
theorem particle_any (x : ByteArray) (w : World) (ht : Lib.TabIs Tryd.prog w "strings.asciiSpace" .u8 Lib.asciiSpaceTab) :
    Calls Tryd.prog 41 #[.string x] w fun e w' => e = .returned (.bool (particB x)) ∧ All w w' := by
  have hf := Tryd.strings_Fields partsText w (by decide) (ascii_of_all (by decide)) ht
  have hmap : ((Lib.fields partsText.data.toList).map fun l => Value.string ⟨l.toArray⟩) = parts.map Value.string := by rw [← parts_fields, List.map_map]; rfl
  have hlen : (Lib.fields partsText.data.toList).length = 10 := by
    have := congrArg List.length parts_fields
    rw [List.length_map] at this
    exact this
  rw [hmap, hlen] at hf
  have HF := Lib.hid hf
  have hblk := heap_at w (.cells (parts.map Value.string).toArray 9) _ rfl
  have HC := Lib.hid (contains_any (some ⟨w.heap.size, 0, none⟩) 10 10 parts x (w.alloc (.cells (parts.map Value.string).toArray 9)) (sl_strs (F := fun _ => True) (by decide) trivial hblk) (by decide))
  have hk : All w (w.alloc (.cells (parts.map Value.string).toArray 9)) := Kept.alloc _ _ _
  clear hf hmap hlen ht hblk
  go_enter Tryd.func41, Tryd.ntmps41
  go_wp2_with fail
  refine HF.out.mono ?_
  rintro e w1 ⟨rfl, rfl⟩
  go_wp2_with fail
  refine HC.out.mono ?_
  rintro e w2 ⟨rfl, rfl⟩
  go_wp2_with fail
  go_ret
  exact ⟨rfl, hk⟩

theorem decodeGo_L (s : ByteArray) : (Lib.decodeGo s).2 ≤ s.size ∧ s.data.toList.take (Lib.decodeGo s).2 = firstP s.data.toList := by
  unfold Lib.decodeGo firstP
  by_cases h0 : s.size = 0
  · rw [if_pos h0]
    have e : s.data.toList = [] := List.eq_nil_of_length_eq_zero (by rw [← Lib.size_eq]; exact h0)
    rw [e]
    simp
  · rw [if_neg h0]
    have e : Lib.decodeL s.data.toList = Utf8.decode s 0 := by
      unfold Lib.decodeL
      congr 1
    have hne : s.data.toList ≠ [] := fun e2 => h0 (by rw [Lib.size_eq, e2]; rfl)
    have := Lib.decodeL_le _ hne
    rw [e, ← Lib.size_eq] at this
    exact ⟨this, by rw [e]⟩
theorem decodeGo_nonneg (s : ByteArray) : 0 ≤ ((Lib.decodeGo s).2 : Int) := by omega
set_option maxHeartbeats 1600000 in
theorem firstPoint_any (s : ByteArray) (w : World) (hg : Glob w) :
    Calls Tryd.prog 46 #[.string s] w fun e w' => e = .returned (.string ⟨(firstP s.data.toList).toArray⟩) ∧ All w w' := by
  have HD := Lib.hid (Tryd.utf8_DecodeRuneInString s w hg.tabs)
  obtain ⟨hle, htk⟩ := decodeGo_L s
  obtain ⟨r, hr⟩ : ∃ r, r = (Lib.decodeGo s).1 := ⟨_, rfl⟩
  obtain ⟨n, hn⟩ : ∃ n, n = (Lib.decodeGo s).2 := ⟨_, rfl⟩
  rw [← hr, ← hn] at HD
  rw [← hn] at hle htk
  have HE := Lib.hid (show s.extract 0 n = ⟨(firstP s.data.toList).toArray⟩ from by
    apply bytes_ext
    rw [Lib.toList_data, Lib.toList_data, ← htk]
    simp)
  have f1 : (0 : Int) ≤ (n : Int) := by omega
  have f2 : (n : Int) ≤ (s.size : Int) := by omega
  clear hr hn htk hg
  go_enter Tryd.func46, Tryd.ntmps46
  go_wp2_with fail
  refine HD.out.mono ?_
  rintro e w1 ⟨rfl, hw1⟩
  go_wp2_with fail
  go_ret
  exact ⟨by rw [← HE.out]; simp, Kept.of_below hw1⟩
end Go.Proofs.YtbpbhpmkganefaaDoor
