/- committeeref2.number. -/
import Derived.Test.YtjbaijgdkkccbaaGreatDoorT8
import Derived.Test.YtjbaijgdkkccbaaGreatDoorM6
import Derived.Test.YtjbaijgdkkccbaaGreatDoorFs
import Derived.Test.YtjbaijgdkkccbaaGreatDoorKb
import Derived.Test.YtjbaijgdkkccbaaGreatDoorZn
import Derived.Test.YtjbaijgdkkccbaaGreatDoorKc
namespace Go.Proofs.YtjbaijgdkkccbaaGreatDoor
open Go.RowKit

theorem dig_contains (b : UInt8) : ([48, 49, 50, 51, 52, 53, 54, 55, 56, 57] : List UInt8).contains b = true ↔ 48 ≤ b.toNat ∧ b.toNat ≤ 57 := by
  rw [List.contains_iff_mem]
  simp only [List.mem_cons, List.not_mem_nil, or_false]
  constructor
  · rintro (rfl | rfl | rfl | rfl | rfl | rfl | rfl | rfl | rfl | rfl) <;> decide
  · rintro ⟨h1, h2⟩
    have h3 : b.toNat = 48 ∨ b.toNat = 49 ∨ b.toNat = 50 ∨ b.toNat = 51 ∨ b.toNat = 52 ∨ b.toNat = 53 ∨ b.toNat = 54 ∨ b.toNat = 55 ∨ b.toNat = 56 ∨ b.toNat = 57 := by omega
    rcases h3 with h | h | h | h | h | h | h | h | h | h
    · exact Or.inl (UInt8.toNat_inj.1 h)
    · exact Or.inr (Or.inl (UInt8.toNat_inj.1 h))
    · exact Or.inr (Or.inr (Or.inl (UInt8.toNat_inj.1 h)))
    · exact Or.inr (Or.inr (Or.inr (Or.inl (UInt8.toNat_inj.1 h))))
    · exact Or.inr (Or.inr (Or.inr (Or.inr (Or.inl (UInt8.toNat_inj.1 h)))))
    · exact Or.inr (Or.inr (Or.inr (Or.inr (Or.inr (Or.inl (UInt8.toNat_inj.1 h))))))
    · exact Or.inr (Or.inr (Or.inr (Or.inr (Or.inr (Or.inr (Or.inl (UInt8.toNat_inj.1 h)))))))
    · exact Or.inr (Or.inr (Or.inr (Or.inr (Or.inr (Or.inr (Or.inr (Or.inl (UInt8.toNat_inj.1 h))))))))
    · exact Or.inr (Or.inr (Or.inr (Or.inr (Or.inr (Or.inr (Or.inr (Or.inr (Or.inl (UInt8.toNat_inj.1 h)))))))))
    · exact Or.inr (Or.inr (Or.inr (Or.inr (Or.inr (Or.inr (Or.inr (Or.inr (Or.inr (UInt8.toNat_inj.1 h)))))))))
theorem digits_only (s : ByteArray) : onlyB (digB s) ⟨#[48, 49, 50, 51, 52, 53, 54, 55, 56, 57]⟩ = (digitsOf s).all isDg := by
  have h1 : onlyB (digB s) ⟨#[48, 49, 50, 51, 52, 53, 54, 55, 56, 57]⟩ = true ↔ (digitsOf s).all isDg = true := by
    rw [onlyB_iff]
    constructor
    · intro h
      exact digs_all fun k hk => (dig_contains _).1 (h k hk)
    · intro h k hk
      refine (dig_contains _).2 (Classical.byContradiction fun hn => digs_not hk hn h)
  cases ha : (digitsOf s).all isDg with
  | true => exact h1.2 ha
  | false =>
    cases ho : onlyB (digB s) ⟨#[48, 49, 50, 51, 52, 53, 54, 55, 56, 57]⟩ with
    | false => rfl
    | true => rw [h1.1 ho] at ha; exact nomatch ha
set_option maxHeartbeats 3200000 in
theorem refNumber_any (s : ByteArray) (w : World) (hs : s.size ≤ 1000000) (hg : GlobP w) : Calls Tryz.prog 123 #[.string s] w (NumPost s w) := by
  have HT := Lib.hid (show Calls Tryz.prog 190 #[.string s, .string ⟨#[45]⟩] w fun e w' => e = .returned (.string (digB s)) ∧ w' = w from Tryz.strings_TrimPrefix s ⟨#[45]⟩ w)
  have hiff := numOk_iff s
  have hdl : (digB s).size = (digitsOf s).length := by rw [size_list, digB_data]
  have hdo := digits_only s
  have D4 := Lib.hid (@atoi_digits s)
  obtain ⟨d, hd⟩ : ∃ d, d = digB s := ⟨_, rfl⟩
  rw [← hd] at HT hdl hdo
  clear hd
  by_cases h0 : d.size = 0
  · have HF := Lib.hid (NumPost.no (s := s) (w := w) (fun e => (hiff.1 e).1.1 (List.eq_nil_of_length_eq_zero (by omega))) (Kept.refl _ w))
    have hnil : (d.toList == []) = true := by rw [toList_nil h0]; rfl
    clear hiff hdl hdo D4
    go_enter Tryz.func123, Tryz.ntmps123
    go_wp2_with fail
    refine HT.out.mono ?_
    rintro e w2 ⟨rfl, rfl⟩
    go_wp2_with fail
    go_ret2
    exact HF.out
  have hnil : (d.toList == []) = false := by rw [beq_eq_false_iff_ne]; exact toList_ne h0
  by_cases h9 : 9 < d.size
  · have HF := Lib.hid (NumPost.no (s := s) (w := w) (fun e => by have := (hiff.1 e).1.2; omega) (Kept.refl _ w))
    have h9d : decide ((9 : Int) < (d.size : Int)) = true := by simp; omega
    clear hiff hdl hdo D4
    go_enter Tryz.func123, Tryz.ntmps123
    go_wp2_with fail
    refine HT.out.mono ?_
    rintro e w2 ⟨rfl, rfl⟩
    go_wp2_with fail
    go_ret2
    exact HF.out
  have h9d : decide ((9 : Int) < (d.size : Int)) = false := by simp; omega
  have HO := Lib.hid (fun (wx : World) => only_any d ⟨#[48, 49, 50, 51, 52, 53, 54, 55, 56, 57]⟩ wx (by omega) (by decide) (by
    intro j b hj
    have h1 : b ∈ ([48, 49, 50, 51, 52, 53, 54, 55, 56, 57] : List UInt8) := List.mem_of_getElem? hj
    have h2 := (dig_contains b).1 (by rw [List.contains_iff_mem]; exact h1)
    omega))
  rw [hdo] at HO
  cases hall : (digitsOf s).all isDg with
  | false =>
    have HF := Lib.hid (fun (w' : World) (k : All w w') => NumPost.no (s := s) (w := w) (fun e => by have := (hiff.1 e).2.2; rw [hall] at this; exact nomatch this) k)
    rw [hall] at HO
    clear hiff hdl hdo D4 hall
    go_enter Tryz.func123, Tryz.ntmps123
    go_wp2_with fail
    refine HT.out.mono ?_
    rintro e w2 ⟨rfl, rfl⟩
    go_wp2_with fail
    refine (HO.out _).mono ?_
    rintro e w3 ⟨rfl, hw3⟩
    go_wp2_with fail
    go_ret2
    exact HF.out _ hw3
  | true =>
    rw [hall] at HO
    obtain ⟨n, hn, hn1, hn2, hsz, hni⟩ := D4.out (fun e => by rw [e] at hdl; exact h0 hdl) (by omega) hall
    have HAT := Lib.hid (fun (wx : World) => Tryz.strconv_Atoi s n (by omega) hn wx)
    have HIT := Lib.hid (fun (wx : World) (k : All w wx) => (show Calls Tryz.prog 88 #[.int .i64 n] wx fun e w' => e = .returned (.string (itoaB n)) ∧ All wx w' from itoa_any n (by omega) (by omega) wx (hg.keep k).p))
    obtain ⟨x, hx⟩ : ∃ x, x = itoaB n := ⟨_, rfl⟩
    rw [← hx] at HIT hni
    obtain ⟨eb, heb⟩ : ∃ eb : Bool, (x.toList == s.toList) = eb := ⟨_, rfl⟩
    have hnf : numF s = if eb = true then some n else none := by
      rw [← heb, Go.ByteArray.toList_eq, Go.ByteArray.toList_eq]
      have hok : numOk s = true ↔ x.data.toList = s.data.toList := by
        rw [hiff, hni]
        exact ⟨fun h => h.2.1, fun h => ⟨⟨fun e => by rw [e] at hdl; exact h0 hdl, by omega⟩, h, hall⟩⟩
      by_cases h : x.data.toList = s.data.toList
      · rw [if_pos (by rw [h]; simp), numF, if_pos (hok.2 h), hn]
      · rw [if_neg (by simpa using h), numF, if_neg (fun e => h (hok.1 e))]
    have HNF := Lib.hid hnf
    clear hiff hdl hdo D4 hall hn hni hnf hx hg
    go_enter Tryz.func123, Tryz.ntmps123
    go_wp2_with fail
    refine HT.out.mono ?_
    rintro e w2 ⟨rfl, rfl⟩
    go_wp2_with fail
    refine (HO.out _).mono ?_
    rintro e w3 ⟨rfl, hw3⟩
    go_wp2_with fail
    refine (HAT.out _).mono ?_
    rintro e w4 ⟨rfl, tb, rfl⟩
    have hk4 := hw3.trans (All.bytesWorld w3 5 tb)
    have HI2 := Lib.hid (HIT.out _ hk4)
    clear HIT
    go_wp2_with fail
    refine HI2.out.mono ?_
    rintro e w5 ⟨rfl, hw5⟩
    have HK5 := Lib.hid (hk4.trans hw5)
    clear hw5 hk4 hw3
    go_wp2_with fail
    go_ret2
    exact ⟨n, eb, rfl, HK5.out, HNF.out⟩
end Go.Proofs.YtjbaijgdkkccbaaGreatDoor

/- A region that draws its order, with stores among its free operations. No program in sight. -/
namespace Go.Proofs.YtjbaijgdkkccbaaGreatDoor
open Go.RowKit

/-- A region that draws its order, with stores among its free operations. -/
theorem wp_region_sts {P : Program} {ops : Array Oper} {Q : Exit → Act → World → Prop} {id : Nat} {a0 : Act} {w0 : World} (z : Nat) (hm : P.follows .mixedOrders = true) (hform : (formOk ops z a0.tmps.size && plainOk ops z) = true)
    (G : (Nat → Bool) → World → Prop) (D : Nat → Value → World → Prop) (E : Nat → World → Prop) (M : Nat → World → World → Prop)
    (hM : ∀ i j v w w', i ≠ j → M j w w' → D i v w → D i v w') (hE : ∀ i j w w', i ≠ j → M j w w' → E i w → E i w') (hG : G (fun _ => false) w0.drew)
    (hstep : ∀ i o, ops[i]? = some o → i < z → ∀ L a w, G L w → L i = false → a.defers = a0.defers → a.tmps.size = a0.tmps.size → (∀ t, t ∉ dsts ops z → a.tmps[t]? = a0.tmps[t]?) →
      (∀ j ∈ depsOf ops i, ∀ t, dstAt ops j = some t → D j (a.tmps.getD t undef) w) → o.wp P a w (fun a' w' => ∃ v, a' = a.put o.dst v ∧ G (fun j => if j = i then true else L j) w' ∧ M i w w' ∧ (o.dst = none → E i w') ∧ (o.dst ≠ none → D i v w')) Q)
    (hlast : ∀ L w (f : Tmp → Value), G L w → (∀ i t, i < z → dstAt ops i = some t → D i (f t) w) → (∀ i, i < z → dstAt ops i = none → E i w) → wpList P ops Q (ops.toList.drop z) (puts a0 ((dsts ops z).map fun t => (t, f t))) w) :
    (Code.region id ops true).wp P Q a0 w0 := by
  have hf := FormIs.of (Bool.and_eq_true_iff.1 hform).1
  have hpl := (Bool.and_eq_true_iff.1 hform).2
  refine wp_region_full z hm (Bool.and_eq_true_iff.1 hform).1 (fun _ L _ w => G L w) (fun i a w => (∀ t, dstAt ops i = some t → D i (a.tmps.getD t undef) w) ∧ (dstAt ops i = none → E i w)) (fun j _ _ w w' => M j w w') (fun i j _ _ a w v w' hi hj hij _ _ hmm hd => ⟨fun t ht => ?_, fun hn => ?_⟩) hG (fun i o ho hi k L a w hk hg hL h1 h2 h3 h4 => ?_) (fun w a L hg _ hd => ?_)
  · have et : dstAt ops j ≠ some t := fun e => (hf.dst i t hi ht).2 j hj (Ne.symm hij) e
    rw [put_at v et]
    exact hM _ _ _ _ _ hij hmm (hd.1 t ht)
  · exact hE _ _ _ _ hij hmm (hd.2 hn)
  · rw [if_pos (by simp [Region.wanted, plainOk.guard hpl hi ho])]
    have hdi : dstAt ops i = o.dst := by simp [dstAt, ho]
    refine Oper.wp_mono ?_ (hstep i o ho hi L a w hg hL h1 h2 h3 (fun j hj => (h4 j hj).1))
    rintro a' w' ⟨v, rfl, hg', hm', he', hd'⟩
    refine ⟨v, rfl, hg', hm', fun t ht => ?_, fun hn => he' (by rw [← hdi]; exact hn)⟩
    rw [hdi] at ht
    have hta' := (hf.dst i t hi (by rw [hdi, ht])).1
    have e : ((a.put o.dst v).tmps.getD t undef) = v := by rw [ht]; simp [Act.put, Array.getD_eq_getD_getElem?, h2, hta']
    rw [e]
    exact hd' (by rw [ht]; exact Option.some_ne_none _)
  · exact hlast L w (fun t => a.tmps.getD t undef) hg (fun i t hi ht => (hd i hi).1 t ht) (fun i hi hn => (hd i hi).2 hn)
end Go.Proofs.YtjbaijgdkkccbaaGreatDoor

/- SheetRead's function of a line. -/
namespace Go.Proofs.YtjbaijgdkkccbaaGreatDoor
open Go.RowKit

theorem beq_word (x : ByteArray) (l : List UInt8) : (x.toList == l) = decide (x = ⟨l.toArray⟩) := by
  have e0 : (⟨l.toArray⟩ : ByteArray).toList = l := by rw [Go.ByteArray.toList_eq]
  by_cases h : x = ⟨l.toArray⟩
  · rw [decide_eq_true h, h, e0]; simp
  · rw [decide_eq_false h, beq_eq_false_iff_ne]; exact fun e => h (bytes_ext (e.trans e0.symm))
theorem head_flag {ws t : List ByteArray} {x : ByteArray} (h : ws = x :: t) (k : ByteArray) : flagAt k ws = decide (x = k) := by
  rw [flagAt, h]
  simp
theorem drop_head {ws : List ByteArray} {d : Nat} {x : ByteArray} (h : ws[d]? = some x) (k : ByteArray) : flagAt k (ws.drop d) = decide (x = k) := by
  rw [flagAt, List.head?_drop, h]
  simp
theorem memB_drop {ws : List ByteArray} {k : ByteArray} (hk : k ≠ emptB) : memB emptB (dropF k ws) = memB emptB ws := by
  unfold dropF
  split
  · rename_i h
    cases ws with
    | nil => rfl
    | cons x t =>
      simp [flagAt] at h
      simp [memB, h, hk]
  · rfl
/-- Where the kind's word stands. -/
def kindI (x : ByteArray) : Int := if kindN x = 0 then -1 else kindN x
theorem idx_kind {x : ByteArray} (h : x ≠ emptB) : idxFrom x 0 [emptB, scorB, choiB, wordB] = kindI x := by
  unfold kindI kindN
  simp only [idxFrom, if_neg (fun e => h e.symm : ¬ emptB = x)]
  by_cases h1 : scorB = x
  · subst h1; rfl
  · have h1' : ¬ x = scorB := fun e => h1 e.symm
    rw [if_neg h1, if_neg h1']
    by_cases h2 : choiB = x
    · subst h2; rfl
    · have h2' : ¬ x = choiB := fun e => h2 e.symm
      rw [if_neg h2, if_neg h2']
      by_cases h3 : wordB = x
      · subst h3; rfl
      · have h3' : ¬ x = wordB := fun e => h3 e.symm
        rw [if_neg h3, if_neg h3']; rfl
/-- The sheet as it is read: the box, and its row. -/
def ShM (ob : Nat) (k : Nat) (xs : List Qst) (w : World) : Prop := ∃ v, w.heap[ob]? = some (.cells #[v] 26 (0, 0)) ∧ Acc RQst 6 146 (fun z => z ≠ ob) (ob + 1) w v xs ∧ xs.length = k
/-- What the function of a line leaves. -/
def LnPost (r : ByteArray) (ob k : Nat) (xs : List Qst) (w : World) (e : Ending) (w' : World) : Prop :=
  ((readQ r = none ∧ e = .returned (.bool false)) ∨ (∃ q, readQ r = some q ∧ e = .returned (.bool true) ∧ ShM ob (k + 1) (xs ++ [q]) w')) ∧ Kept (fun z => z < ob) w w'
/-- The two blocks of a reading. -/
structure RS (w : World) (rb : Nat) (ws : List ByteArray) (C : Array Value) (wx : World) : Prop where
  row : wx.heap[rb]? = some (.cells (ws.map Value.string).toArray 9 (0, 0))
  q : wx.heap[rb + 1]? = some (.cells C 146 (0, 0))
  all : All w wx
theorem RS.step {w wx wy : World} {rb : Nat} {ws : List ByteArray} {C : Array Value} (h : RS w rb ws C wx) (k : All wx wy) : RS w rb ws C wy := ⟨k.heap h.row trivial, k.heap h.q trivial, h.all.trans k⟩
theorem RS.put {w wx : World} {rb : Nat} {ws : List ByteArray} {C : Array Value} (h : RS w rb ws C wx) (hrb : w.heap.size ≤ rb) (j : Nat) (u : Value) : RS w rb ws (C.setIfInBounds j u) (wx.setCell ⟨rb + 1, j, none⟩ u) :=
  ⟨(setCell_kept (rb := rb + 1) wx j u).heap h.row (by omega), heap_setCell_at _ _ _ _ _ _ _ h.q, h.all.then_setNew _ _ (by dsimp only; omega)⟩
/-- The words that are left. -/
def RW (rb d m : Nat) (v : Value) : Prop := ∃ d2, v = .slice (some ⟨rb, d2, none⟩) m m ∧ (0 < m → d2 = d)
def oneQ (key : ByteArray) (kn : Int) (f1 f2 : Bool) : List ByteArray → Option Qst
  | [x] => (numF x).map fun m => ⟨key, kn, m, [], f1, f2⟩
  | _ => none
theorem bodyW_one (n s : Bool) (k key : ByteArray) (r : List ByteArray) : bodyW n s (k :: key :: r) = if kindN k = 0 then none else if kindN k = 2 then some ⟨key, 2, 0, r, n, s⟩ else oneQ key (kindN k) n s r := by
  match r with
  | [] => rfl
  | [x] => rfl
  | x :: y :: t => rfl
theorem readW_short {ws : List ByteArray} (h : (dropF secrB (dropF needB ws)).length < 2) : readW ws = none := by
  unfold readW
  split
  · rfl
  · exact bodyW_short h
theorem memB_two (ws : List ByteArray) : memB emptB (dropF secrB (dropF needB ws)) = memB emptB ws := by rw [memB_drop (by decide), memB_drop (by decide)]
theorem readW_empty {ws : List ByteArray} (h : memB emptB (dropF secrB (dropF needB ws)) = true) : readW ws = none := by
  rw [memB_two] at h
  rw [readW, if_pos h]
theorem readW_body {ws : List ByteArray} (h : memB emptB (dropF secrB (dropF needB ws)) = false) : readW ws = bodyW (flagAt needB ws) (flagAt secrB (dropF needB ws)) (dropF secrB (dropF needB ws)) := by
  rw [memB_two] at h
  rw [readW, if_neg (by rw [h]; decide)]
theorem LnPost.no {r : ByteArray} {ob k : Nat} {xs : List Qst} {w w' : World} (h : readQ r = none) (hk : All w w') : LnPost r ob k xs w (.returned (.bool false)) w' := ⟨Or.inl ⟨h, rfl⟩, hk.mono (fun _ _ => trivial)⟩
/-- The four words of kinds, as they are written out. -/
def K4 (rb : Nat) (v : Value) (w : World) : Prop := ∃ b, b ≠ rb + 1 ∧ v = .slice (some ⟨b, 0, none⟩) 4 4 ∧ w.heap[b]? = some (.cells #[.string ⟨#[]⟩, .string ⟨#[115, 99, 111, 114, 101]⟩, .string ⟨#[99, 104, 111, 105, 99, 101]⟩, .string ⟨#[119, 111, 114, 100, 115]⟩] 9 (0, 0))
theorem K4.sl {rb : Nat} {v : Value} {w : World} (h : K4 rb v w) : ∃ a, v = .slice a 4 4 ∧ Sl RStr 1 (fun _ => True) w a 4 [emptB, scorB, choiB, wordB] := by
  obtain ⟨b, -, rfl, hb⟩ := h
  refine ⟨_, rfl, Sl.of_strs rfl trivial (fun i hi => ?_) (by decide)⟩
  have h4 : i = 0 ∨ i = 1 ∨ i = 2 ∨ i = 3 := by omega
  rcases h4 with rfl | rfl | rfl | rfl <;> exact cell_at hb rfl
def CD (cs : List Value) (rb : Nat) (i : Nat) (v : Value) (w : World) : Prop := if i = 0 then K4 rb v w else v = cs.getD i undef
theorem CD.mk {cs : List Value} {rb i : Nat} {v : Value} {w : World} (h : i ≠ 0) (e : v = cs.getD i undef) : CD cs rb i v w := by unfold CD; rw [if_neg h]; exact e
theorem CD.get {cs : List Value} {rb i : Nat} {v : Value} {w : World} (h : CD cs rb i v w) (hi : i ≠ 0) : v = cs.getD i undef := by unfold CD at h; rwa [if_neg hi] at h
theorem CD.k4 {cs : List Value} {rb : Nat} {v : Value} {w : World} (h : CD cs rb 0 v w) : K4 rb v w := by unfold CD at h; rwa [if_pos rfl] at h
def CM (rb j : Nat) (w w' : World) : Prop := Kept (fun z => z ≠ rb + 1) w w' ∧ (j ≠ 9 → ∀ v, w.cell? ⟨rb + 1, 1, none⟩ = some v → w'.cell? ⟨rb + 1, 1, none⟩ = some v)
theorem CM.all {rb j : Nat} {w w' : World} (k : All w w') : CM rb j w w' := ⟨k.mono (fun _ _ => trivial), fun _ _ h => k.cell h trivial⟩

set_option maxRecDepth 100000 in
set_option maxHeartbeats 12800000 in
theorem sheetRead1_any (r : ByteArray) (ob k : Nat) (xs : List Qst) (w : World) (hr : r.size ≤ 900) (hg : GlobP w) (hk : k ≤ 1000) (hM : ShM ob k xs w) :
    Calls Tryz.prog 120 #[.string r, .pointer (some ⟨ob, 0, none⟩)] w (LnPost r ob k xs w) := by
  obtain ⟨rb, hrb⟩ : ∃ z, z = w.heap.size := ⟨_, rfl⟩
  obtain ⟨mx, hmx⟩ := hg.g.most
  have hsp := Lib.hid (Tryz.strings_Split r spB mx w (by omega) hmx (by decide))
  obtain ⟨ws, hws⟩ : ∃ z, z = rowsB spB r := ⟨_, rfl⟩
  obtain ⟨n, hn⟩ : ∃ z, z = ws.length := ⟨_, rfl⟩
  have hln := rowsB_len spB r (by decide)
  have HSP := Lib.hid (show Calls Tryz.prog 121 #[.string r, .string spB] w fun e w' => e = .returned (.slice (some ⟨rb, 0, none⟩) n n) ∧ w' = w.alloc (.cells (ws.map Value.string).toArray 9) from by
    have h1 := hsp.out
    rw [← hln, ← hrb] at h1
    rw [hn, hws]
    exact h1)
  have hnl := rowsB_le spB r (by decide)
  have hsz := rowsB_size spB r
  have hrq : readQ r = readW ws := by rw [readQ, hws]
  rw [← hws] at hnl hsz hln
  rw [← hn] at hnl hln
  have HSZ := Lib.hid hsz
  obtain ⟨ob2, hob⟩ : ∃ o : Obj, o = .cells (ws.map Value.string).toArray 9 := ⟨_, rfl⟩
  rw [← hob] at HSP
  have hR : RS w rb ws #[.string ⟨#[]⟩, .int .i64 0, .int .i64 0, .slice none 0 0, .bool false, .bool false] ((w.alloc ob2).alloc (.cells #[.string ⟨#[]⟩, .int .i64 0, .int .i64 0, .slice none 0 0, .bool false, .bool false] 146)) := by
    refine ⟨?_, ?_, (Kept.alloc _ _ _).then_alloc _⟩
    · rw [← hob]; exact heap_old _ (heap_at w _ _ hrb)
    · exact heap_at _ _ _ (by simp [hrb])
  have HRB := Lib.hid hrb
  have hrl : w.heap.size ≤ rb := by omega
  have HRL := Lib.hid hrl
  have hn1 : 1 ≤ n := by omega
  obtain ⟨x0, t0, hx0⟩ : ∃ x t, ws = x :: t := by
    cases ws with
    | nil => simp at hn; omega
    | cons x t => exact ⟨x, t, rfl⟩
  obtain ⟨ov, hov, hacc, hxl⟩ := hM
  have hobs : ob < w.heap.size := by
    rcases Nat.lt_or_ge ob w.heap.size with h | h
    · exact h
    · rw [Array.getElem?_eq_none h] at hov; exact nomatch hov
  have HOV := Lib.hid hov
  have HACC := Lib.hid hacc
  have HXL := Lib.hid hxl
  have HOB := Lib.hid hobs
  have hi0 : (0 : Int) < (n : Int) := by omega
  have hc0 : ws[0]? = some x0 := by rw [hx0]; rfl
  obtain ⟨f1, hf1⟩ : ∃ z, z = flagAt needB ws := ⟨_, rfl⟩
  have hd1 : (x0.toList == [110, 101, 101, 100, 101, 100]) = f1 := by rw [beq_word, hf1, head_flag hx0]; rfl
  obtain ⟨d1, hdd1⟩ : ∃ z, z = (if f1 = true then 1 else 0) := ⟨_, rfl⟩
  obtain ⟨m1, hmm1⟩ : ∃ z, z = n - (if f1 = true then 1 else 0) := ⟨_, rfl⟩
  have hw1 : dropF needB ws = ws.drop d1 := by rw [dropF_drop, ← hf1, hdd1]
  have hnm1 : n = d1 + m1 := by
    cases f1
    · simp at hdd1 hmm1; omega
    · simp at hdd1 hmm1; omega
  have HF1 := Lib.hid hf1
  have HW1 := Lib.hid hw1
  have HN := Lib.hid hn
  have HD1 := Lib.hid hdd1
  have HM1 := Lib.hid hmm1
  have HX0 := Lib.hid hx0
  have HRQ := Lib.hid hrq
  have HNM := Lib.hid hnm1
  have HG := Lib.hid hg
  clear hws hob hsz hmx hg hov hacc hxl hobs hsp hln hrq hrb hrl hf1 hw1 hn hdd1 hmm1 hx0 hnm1
  go_enter Tryz.func120, Tryz.ntmps120
  go_wp2_with fail
  refine HSP.out.mono ?_
  rintro e w2 ⟨rfl, rfl⟩
  go_upto_region 3 with fail
  simp only [← HRB.out]
  generalize ((w.alloc ob2).alloc (.cells #[.string ⟨#[]⟩, .int .i64 0, .int .i64 0, .slice none 0 0, .bool false, .bool false] 146)) = w2 at *
  have b0 : w2.cell? ⟨rb, 0, none⟩ = some (.string x0) := cell_at hR.row (by simp [hc0])
  have q4 := cell_at (i := 4) hR.q rfl
  have z4 := frozen_at (i := 4) hR.q
  have HR2 := Lib.hid hR
  have hR4 := hR.put HRL.out 4 (.bool true)
  simp only [List.setIfInBounds_toArray, List.set_cons_zero, List.set_cons_succ] at hR4
  replace hR4 := Lib.hid hR4
  clear hR HSP hc0
  go_upto_if 12 with fail
  go_cut [4] (fun v wx => RW rb d1 m1 v ∧ RS w rb ws #[.string ⟨#[]⟩, .int .i64 0, .int .i64 0, .slice none 0 0, .bool f1, .bool false] wx)
  case first =>
    cases f1 with
    | false =>
      obtain rfl : d1 = 0 := HD1.out
      obtain rfl : m1 = n := HM1.out
      go_wp2_with fail
      go_meet
      exact ⟨⟨0, by simp, fun _ => rfl⟩, HR2.out⟩
    | true =>
      have h11 : (1 : Int) ≤ (n : Int) := by omega
      have hR5 := Lib.hid (hR4.out.step (Kept.drew _ _))
      clear b0
      by_cases hc : n = 1
      · subst hc
        go_upto_region 4 with fail
        go_region_held3 (fun w' => True) (trivial) (fail)
        go_wp2_with fail
        go_meet
        have hm1 : m1 = 1 - 1 := HM1.out
        exact ⟨⟨_, by rw [hm1], fun h => by omega⟩, hR5.out⟩
      · go_upto_region 4 with fail
        go_region_held3 (fun w' => True) (trivial) (fail)
        go_wp2_with fail
        go_meet
        have hm1 : m1 = n - 1 := HM1.out
        have hd1' : d1 = 1 := HD1.out
        exact ⟨⟨_, by rw [hm1], fun h => by omega⟩, hR5.out⟩
  case rest =>
    obtain ⟨⟨d2, rfl, hd2⟩, hR3⟩ := hcut
    obtain ⟨w3, rfl⟩ : ∃ x : World, x = wc := ⟨_, rfl⟩
    clear b0 q4 z4 HR2 hR4 hd1 hi0
    have HWF := Lib.hid (fun (j : Nat) (x : ByteArray) (hj : ws[j]? = some x) (wx : World) (C : Array Value) (h : RS w rb ws C wx) => (show wx.cell? ⟨rb, j, none⟩ = some (.string x) from cell_at h.row (by simp [hj])))
    by_cases hm0 : m1 = 0
    · have hno := Lib.hid (show readQ r = none from by rw [HRQ.out]; exact readW_short (by
        have h1 : ws.length ≤ d1 := by have := HNM.out; have := HN.out; omega
        rw [HW1.out, List.drop_of_length_le h1, dropF_drop, List.drop_nil]; decide))
      have hfin := Lib.hid hR3.all
      subst hm0
      clear hR3 hd2
      go_wp2_with fail
      go_ret
      exact LnPost.no hno.out hfin.out
    have hi1 : (0 : Int) < (m1 : Int) := by omega
    obtain rfl := hd2 (by omega)
    obtain ⟨x1, hx1⟩ : ∃ x, ws[d2]? = some x := ⟨_, List.getElem?_eq_getElem (show d2 < ws.length by have := HNM.out; have := HN.out; omega)⟩
    obtain ⟨f2, hf2⟩ : ∃ z, z = flagAt secrB (ws.drop d2) := ⟨_, rfl⟩
    have hd1 : (x1.toList == [115, 101, 99, 114, 101, 116]) = f2 := by rw [beq_word, hf2, drop_head hx1]; rfl
    obtain ⟨d, hdd⟩ : ∃ z, z = d2 + (if f2 = true then 1 else 0) := ⟨_, rfl⟩
    obtain ⟨m, hmm⟩ : ∃ z, z = m1 - (if f2 = true then 1 else 0) := ⟨_, rfl⟩
    have HW2 := Lib.hid (show dropF secrB (dropF needB ws) = ws.drop d from by rw [HW1.out, dropF_drop, ← hf2, List.drop_drop, hdd])
    have HF2 := Lib.hid (show f2 = flagAt secrB (dropF needB ws) from by rw [hf2, HW1.out])
    have HDM := Lib.hid (show n = d + m from by
      have := HNM.out
      cases f2
      · simp at hdd hmm; omega
      · simp at hdd hmm; omega)
    have HD := Lib.hid hdd
    have HM := Lib.hid hmm
    have b0 : w3.cell? ⟨rb, d2, none⟩ = some (.string x1) := HWF.out _ _ hx1 _ _ hR3
    have q5 := cell_at (i := 5) hR3.q rfl
    have z5 := frozen_at (i := 5) hR3.q
    have hR4 := hR3.put HRL.out 5 (.bool true)
    simp only [List.setIfInBounds_toArray, List.set_cons_zero, List.set_cons_succ] at hR4
    replace hR4 := Lib.hid (hR4.step (Kept.drew _ _))
    have HR3 := Lib.hid hR3
    clear hf2 hdd hmm hx1 hR3 hd2 hm0
    go_upto_if 24 with fail
    go_cut [4] (fun v wx => RW rb d m v ∧ RS w rb ws #[.string ⟨#[]⟩, .int .i64 0, .int .i64 0, .slice none 0 0, .bool f1, .bool f2] wx)
    case first =>
      cases f2 with
      | false =>
        obtain rfl : d = d2 := HD.out
        obtain rfl : m = m1 := HM.out
        go_wp2_with fail
        go_meet
        exact ⟨⟨_, rfl, fun _ => rfl⟩, HR3.out⟩
      | true =>
        have h11 : (1 : Int) ≤ (m1 : Int) := by omega
        clear b0
        by_cases hc : m1 = 1
        · subst hc
          go_upto_region 6 with fail
          go_region_held3 (fun w' => True) (trivial) (fail)
          go_wp2_with fail
          go_meet
          have hm2 : m = 1 - 1 := HM.out
          exact ⟨⟨_, by rw [hm2], fun h => by omega⟩, hR4.out⟩
        · go_upto_region 6 with fail
          go_region_held3 (fun w' => True) (trivial) (fail)
          go_wp2_with fail
          go_meet
          have hm2 : m = m1 - 1 := HM.out
          have hd1' : d = d2 + 1 := HD.out
          exact ⟨⟨_, by rw [hm2], fun h => hd1'.symm⟩, hR4.out⟩
    case rest =>
    obtain ⟨⟨d3, rfl, hd3⟩, hR5⟩ := hcut
    obtain ⟨w4, rfl⟩ : ∃ x : World, x = wc := ⟨_, rfl⟩
    clear b0 q5 z5 HR3 hR4 hd1 hi1
    by_cases hm2 : m < 2
    · have hno := Lib.hid (show readQ r = none from by rw [HRQ.out]; exact readW_short (by
        rw [HW2.out, List.length_drop, ← HN.out, HDM.out]; omega))
      have hfin := Lib.hid hR5.all
      have hdm : decide ((m : Int) < 2) = true := by simp; omega
      clear hR5 hd3
      go_wp2_with fail
      go_ret
      exact LnPost.no hno.out hfin.out
    obtain rfl := hd3 (by omega)
    have hdm : decide ((m : Int) < 2) = false := by simp; omega
    have hm9 : m ≤ 1000 := by have := HDM.out; omega
    have hsl : Sl RStr 1 (fun _ => True) w4 (some ⟨rb, d3, none⟩) m (ws.drop d3) := Sl.of_strs (by rw [List.length_drop, ← HN.out, HDM.out]; omega) trivial (fun i hi => by
        refine HWF.out _ _ ?_ _ _ hR5
        have h1 : d3 + i < ws.length := by have := HDM.out; have := HN.out; omega
        rw [List.getElem?_eq_getElem h1]
        simp [List.getD_eq_getElem?_getD, List.getElem?_drop, List.getElem?_eq_getElem h1]) (fun x hx => by
        have := HSZ.out _ (List.mem_of_mem_drop hx); omega)
    have hct := Lib.hid (contains_any (some ⟨rb, d3, none⟩) m m (ws.drop d3) emptB w4 hsl (by omega))
    obtain ⟨bt, hbt⟩ : ∃ z, z = memB emptB (ws.drop d3) := ⟨_, rfl⟩
    rw [← hbt] at hct
    cases bt with
    | true =>
      have hno := Lib.hid (show readQ r = none from by rw [HRQ.out]; exact readW_empty (by rw [HW2.out]; exact hbt.symm))
      have hfin := Lib.hid hR5.all
      clear hR5 hd3 hsl hbt
      go_wp2_with fail
      refine hct.out.mono ?_
      rintro e w5 ⟨rfl, hh⟩
      subst hh
      go_wp2_with fail
      go_ret
      exact LnPost.no hno.out hfin.out
    | false =>
    have hbody := readW_body (ws := ws) (by rw [HW2.out]; exact hbt.symm)
    rw [HW2.out, ← HF1.out, ← HF2.out, ← HRQ.out] at hbody
    obtain ⟨x2, key, rr, hdr⟩ : ∃ x2 key rr, ws.drop d3 = x2 :: key :: rr := by
      have hl : (ws.drop d3).length = m := by rw [List.length_drop, ← HN.out, HDM.out]; omega
      match h : ws.drop d3 with
      | [] => rw [h] at hl; simp at hl; omega
      | [x] => rw [h] at hl; simp at hl; omega
      | x :: y :: z => exact ⟨x, y, z, rfl⟩
    have hml : m = rr.length + 2 := by
      have hl : (ws.drop d3).length = m := by rw [List.length_drop, ← HN.out, HDM.out]; omega
      rw [hdr] at hl; simp at hl; omega
    have hne : x2 ≠ emptB := fun e => by rw [hdr, e] at hbt; simp [memB] at hbt
    rw [hdr] at hbody
    have hx2 : ws[d3]? = some x2 := by rw [← List.head?_drop, hdr]; rfl
    have hxk : ws[d3 + 1]? = some key := by
      have := List.getElem?_drop (xs := ws) (i := d3) (j := 1); rw [hdr] at this; exact this.symm
    have hks : key.size ≤ 900 := by have := HSZ.out key (List.mem_of_getElem? hxk); omega
    have HRR := Lib.hid (fun (j : Nat) (hj : j < rr.length) => (show ws[d3 + 2 + j]? = some rr[j] from by
      have := List.getElem?_drop (xs := ws) (i := d3) (j := j + 2)
      rw [hdr] at this
      rw [show d3 + 2 + j = d3 + (j + 2) by omega, ← this]
      simp [List.getElem?_eq_getElem hj]))
    obtain ⟨ki, hki⟩ : ∃ z, z = kindI x2 := ⟨_, rfl⟩
    obtain ⟨kn, hkn⟩ : ∃ z, z = kindN x2 := ⟨_, rfl⟩
    have hk4 := kindN_in x2
    have hbody2 : readQ r = if kn = 0 then none else if kn = 2 then some ⟨key, 2, 0, rr, f1, f2⟩ else oneQ key kn f1 f2 rr := by rw [hbody, hkn, bodyW_one]
    have hik := idx_kind hne
    have HIX := Lib.hid (fun (v : Value) (wx : World) (h : K4 rb v wx) => (show ∃ a, v = .slice a 4 4 ∧ Calls Tryz.prog 122 #[.slice a 4 4, .string x2] wx fun e w' => e = .returned (.int .i64 ki) ∧ wx = w' from by
      obtain ⟨a, rfl, hs⟩ := h.sl
      have := index_any a 4 4 [emptB, scorB, choiB, wordB] x2 wx hs (by decide)
      rw [hik, ← hki] at this
      exact ⟨a, rfl, this⟩))
    have hkk : ki = if kn = 0 then -1 else kn := by rw [hki, hkn]; rfl
    rw [← hkn] at hk4
    have HB2 := Lib.hid hbody2
    have HKK := Lib.hid hkk
    have HML := Lib.hid hml
    have H2 := Lib.hid (fun (wx : World) (C : Array Value) (h : RS w rb ws C wx) => HWF.out _ _ hx2 _ _ h)
    have HK := Lib.hid (fun (wx : World) (C : Array Value) (h : RS w rb ws C wx) => HWF.out _ _ hxk _ _ h)
    have hi2 : (1 : Int) < (m : Int) := by omega
    have hi3 : (0 : Int) < (m : Int) := by omega
    have hi4 : 0 < m := by omega
    clear hbody hbody2 hdr hml hne hx2 hxk hki hkn hik hkk hsl hbt hd3 hm2
    go_wp2_with fail
    refine hct.out.mono ?_
    rintro e w5 ⟨rfl, hh⟩
    subst hh
    go_upto_region 9 with fail
    go_cut [] (fun wx => RS w rb ws #[.string key, .int .i64 ki, .int .i64 0, .slice none 0 0, .bool f1, .bool f2] wx)
    case first =>
      have HR5 := Lib.hid hR5
      have HRL2 := Lib.hid (show w.heap.size ≤ rb + 1 from by have := HRL.out; omega)
      clear hR5
      refine wp_region_sts 10 (by kernel_rfl) (by kernel_rfl) (fun _ wx => ∃ u1, RS w rb ws #[.string ⟨#[]⟩, u1, .int .i64 0, .slice none 0 0, .bool f1, .bool f2] wx)
        (CD [(undef), (.slice (some ⟨rb, d3, none⟩) m m), (.pointer (some ⟨rb, d3, none⟩)), (.string x2), (.int .i64 ki), (.slice (some ⟨rb, d3, none⟩) m m), (.pointer (some ⟨rb, d3 + 1, none⟩)), (.string key), (.pointer (some ⟨rb + 1, 1, none⟩)), (undef)] rb)
        (fun i wx => i = 9 → wx.cell? ⟨rb + 1, 1, none⟩ = some (.int .i64 ki)) (CM rb) ?_ ?_ ?_ ?_ ?_
      · intro i j v wx w' hij hm hd
        unfold CD at *
        by_cases h0 : i = 0
        · rw [if_pos h0] at *
          obtain ⟨b, hb, rfl, hh⟩ := hd
          exact ⟨b, hb, rfl, hm.1.heap hh hb⟩
        · rw [if_neg h0] at *
          exact hd
      · exact fun i j wx w' hij hm he h9 => hm.2 (fun e => hij (by rw [h9, e])) _ (he h9)
      · exact ⟨_, HR5.out.step (Kept.drew _ _)⟩
      · intro i o ho hi L a' wx hg hLi hdf hts hoth hdeps
        obtain ⟨u1, hg⟩ := hg
        have hz : i = 0 ∨ i = 1 ∨ i = 2 ∨ i = 3 ∨ i = 4 ∨ i = 5 ∨ i = 6 ∨ i = 7 ∨ i = 8 ∨ i = 9 := by omega
        rcases hz with rfl | rfl | rfl | rfl | rfl | rfl | rfl | rfl | rfl | rfl
        · obtain rfl := Option.some.inj ho
          clear hoth hdeps hdf hts ho
          refine wp_via (fun K' hK => ?_)
          have HKK2 := Lib.hid hK
          clear hK
          go_simp
          exact HKK2.out _ _ ⟨_, rfl, ⟨_, hg.step (Kept.alloc _ _ _)⟩, CM.all (Kept.alloc _ _ _), (fun h => nomatch h), fun _ => by unfold CD; rw [if_pos rfl]; exact ⟨_, by have := lt_of_cell (H2.out _ _ hg); have h2 := lt_of_cell (cell_at (i := 1) hg.q rfl); dsimp only at this h2; omega, rfl, heap_at _ _ _ rfl⟩⟩
        · obtain rfl := Option.some.inj ho
          have e0 : a'.tmps.getD 4 undef = .slice (some ⟨rb, d3, none⟩) m m := tmp_of ((hoth 4 (by decide)).trans rfl)
          clear hoth hdeps hdf hts ho
          refine wp_via (fun K' hK => ?_)
          have HKK2 := Lib.hid hK
          clear hK
          go_simp
          exact HKK2.out _ _ ⟨_, rfl, ⟨_, hg⟩, CM.all (Kept.refl _ _), (fun h => nomatch h), fun _ => CD.mk (by decide) rfl⟩
        · obtain rfl := Option.some.inj ho
          have e0 : a'.tmps.getD 36 undef = .slice (some ⟨rb, d3, none⟩) m m := (hdeps 1 (by decide) 36 rfl).get (by decide)
          clear hoth hdeps hdf hts ho
          refine wp_via (fun K' hK => ?_)
          have HKK2 := Lib.hid hK
          clear hK
          go_simp
          exact HKK2.out _ _ ⟨_, rfl, ⟨_, hg⟩, CM.all (Kept.refl _ _), (fun h => nomatch h), fun _ => CD.mk (by decide) rfl⟩
        · obtain rfl := Option.some.inj ho
          have e0 : a'.tmps.getD 37 undef = .pointer (some ⟨rb, d3, none⟩) := (hdeps 2 (by decide) 37 rfl).get (by decide)
          have c0 := H2.out _ _ hg
          clear hoth hdeps hdf hts ho
          refine wp_via (fun K' hK => ?_)
          have HKK2 := Lib.hid hK
          clear hK
          go_simp
          exact HKK2.out _ _ ⟨_, rfl, ⟨_, hg⟩, CM.all (Kept.refl _ _), (fun h => nomatch h), fun _ => CD.mk (by decide) rfl⟩
        · obtain rfl := Option.some.inj ho
          obtain ⟨a4, e0, hix⟩ := HIX.out _ _ (hdeps 0 (by decide) 35 rfl).k4
          have e1 : a'.tmps.getD 38 undef = .string x2 := (hdeps 3 (by decide) 38 rfl).get (by decide)
          clear hoth hdeps hdf hts ho
          refine wp_via (fun K' hK => ?_)
          have HKK2 := Lib.hid hK
          clear hK
          go_simp
          refine (hix).mono ?_
          rintro e w6 ⟨rfl, hh⟩
          subst hh
          exact HKK2.out _ _ ⟨_, rfl, ⟨_, hg⟩, CM.all (Kept.refl _ _), (fun h => nomatch h), fun _ => CD.mk (by decide) rfl⟩
        · obtain rfl := Option.some.inj ho
          have e0 : a'.tmps.getD 4 undef = .slice (some ⟨rb, d3, none⟩) m m := tmp_of ((hoth 4 (by decide)).trans rfl)
          clear hoth hdeps hdf hts ho
          refine wp_via (fun K' hK => ?_)
          have HKK2 := Lib.hid hK
          clear hK
          go_simp
          exact HKK2.out _ _ ⟨_, rfl, ⟨_, hg⟩, CM.all (Kept.refl _ _), (fun h => nomatch h), fun _ => CD.mk (by decide) rfl⟩
        · obtain rfl := Option.some.inj ho
          have e0 : a'.tmps.getD 40 undef = .slice (some ⟨rb, d3, none⟩) m m := (hdeps 5 (by decide) 40 rfl).get (by decide)
          clear hoth hdeps hdf hts ho
          refine wp_via (fun K' hK => ?_)
          have HKK2 := Lib.hid hK
          clear hK
          go_simp
          exact HKK2.out _ _ ⟨_, rfl, ⟨_, hg⟩, CM.all (Kept.refl _ _), (fun h => nomatch h), fun _ => CD.mk (by decide) rfl⟩
        · obtain rfl := Option.some.inj ho
          have e0 : a'.tmps.getD 41 undef = .pointer (some ⟨rb, d3 + 1, none⟩) := (hdeps 6 (by decide) 41 rfl).get (by decide)
          have c0 := HK.out _ _ hg
          clear hoth hdeps hdf hts ho
          refine wp_via (fun K' hK => ?_)
          have HKK2 := Lib.hid hK
          clear hK
          go_simp
          exact HKK2.out _ _ ⟨_, rfl, ⟨_, hg⟩, CM.all (Kept.refl _ _), (fun h => nomatch h), fun _ => CD.mk (by decide) rfl⟩
        · obtain rfl := Option.some.inj ho
          have e0 : a'.tmps.getD 5 undef = .pointer (some ⟨rb + 1, 0, none⟩) := tmp_of ((hoth 5 (by decide)).trans rfl)
          clear hoth hdeps hdf hts ho
          refine wp_via (fun K' hK => ?_)
          have HKK2 := Lib.hid hK
          clear hK
          go_simp
          exact HKK2.out _ _ ⟨_, rfl, ⟨_, hg⟩, CM.all (Kept.refl _ _), (fun h => nomatch h), fun _ => CD.mk (by decide) rfl⟩
        · obtain rfl := Option.some.inj ho
          have e0 : a'.tmps.getD 43 undef = .pointer (some ⟨rb + 1, 1, none⟩) := (hdeps 8 (by decide) 43 rfl).get (by decide)
          have e1 : a'.tmps.getD 39 undef = .int .i64 ki := (hdeps 4 (by decide) 39 rfl).get (by decide)
          have c1 := cell_at (i := 1) hg.q rfl
          have z1 := frozen_at (i := 1) hg.q
          have hE := World.cell?_setCell_same _ _ (Value.int .i64 ki) c1
          have hg2 := hg.put HRL.out 1 (.int .i64 ki)
          simp only [List.setIfInBounds_toArray, List.set_cons_zero, List.set_cons_succ] at hg2
          replace hg2 := Lib.hid hg2
          replace hE := Lib.hid hE
          clear hoth hdeps hdf hts ho
          refine wp_via (fun K' hK => ?_)
          have HKK2 := Lib.hid hK
          clear hK
          go_simp
          exact HKK2.out _ _ ⟨undef, rfl, ⟨_, hg2.out⟩, ⟨setCell_kept _ _ _, fun h => absurd rfl h⟩, fun _ _ => hE.out, fun h => absurd rfl h⟩
      · intro L wx f hg hd he
        obtain ⟨u1, hg⟩ := hg
        have e7 : f 42 = .string key := (hd 7 42 (by decide) rfl).get (by decide)
        have e9 := he 9 (by decide) rfl rfl
        rw [show dsts _ 10 = [35, 36, 37, 38, 39, 40, 41, 42, 43] from by kernel_rfl]
        simp only [List.map_cons, List.map_nil, puts, Act.put, e7, List.drop_succ_cons, List.drop_zero]
        clear e7 hd he
        generalize f 35 = f35
        generalize f 36 = f36
        generalize f 37 = f37
        generalize f 38 = f38
        generalize f 39 = f39
        generalize f 40 = f40
        generalize f 41 = f41
        generalize f 43 = f43
        simp only [List.setIfInBounds_toArray, List.set_cons_zero, List.set_cons_succ]
        clear f
        have hu := cell_at (i := 1) hg.q rfl
        rw [e9] at hu
        obtain rfl := Option.some.inj hu
        have c0 := cell_at (i := 0) hg.q rfl
        have z0 := frozen_at (i := 0) hg.q
        have hg2 := hg.put HRL.out 0 (.string key)
        simp only [List.setIfInBounds_toArray, List.set_cons_zero] at hg2
        have HG2 := Lib.hid hg2
        clear hg hg2 hu e9
        go_wp2_with fail
        go_meet
        exact HG2.out
    case rest =>
    obtain ⟨w6, rfl⟩ : ∃ x : World, x = wc := ⟨_, rfl⟩
    have hR6 := hcut
    clear hcut hR5
    have q1 := cell_at (i := 1) hR6.q rfl
    have HR6 := Lib.hid hR6
    go_upto_if 50 with fail
    go_cut [6] (fun v wx => ∃ (q : Qst) (oa : Option Addr) (oc : Nat) (gd : Bool), v = .bool gd ∧ readQ r = (if gd = true then some q else none) ∧ q.opts.length ≤ oc ∧ QstSmall q ∧ Sl RStr 1 (fun z => w.heap.size ≤ z) wx oa q.opts.length q.opts ∧ RS w rb ws #[.string q.key, .int .i64 q.kind, .int .i64 q.most, .slice oa q.opts.length oc, .bool q.needed, .bool q.secret] wx)
    case first =>
      clear hR6
      rcases hk4 with rfl | rfl | rfl | rfl
      · obtain rfl : ki = -1 := HKK.out
        have hno := Lib.hid (show readQ r = none from by rw [HB2.out, if_pos rfl])
        clear H2 HK HB2
        go_wp2_with fail
        go_meet
        exact ⟨⟨key, -1, 0, [], f1, f2⟩, none, 0, false, rfl, hno.out, Nat.le_refl _, ⟨by show key.size ≤ 1000000; omega, Nat.zero_le _⟩, Sl.nil _ _ _ _ _, HR6.out⟩
      · obtain rfl : ki = 1 := HKK.out
        have hb1 : readQ r = oneQ key 1 f1 f2 rr := by rw [HB2.out, if_neg (by decide), if_neg (by decide)]
        by_cases hr1 : rr.length = 1
        · obtain ⟨x, rfl⟩ : ∃ x, rr = [x] := List.length_eq_one_iff.1 hr1
          obtain rfl : m = 3 := HML.out
          have hx3 : ws[d3 + 2]? = some x := HRR.out 0 (by simp)
          have b2 : w6.cell? ⟨rb, d3 + 2, none⟩ = some (.string x) := HWF.out _ _ hx3 _ _ HR6.out
          have hxs : x.size ≤ 900 := by have := HSZ.out x (List.mem_of_getElem? hx3); omega
          have HSM := Lib.hid (refNumber_any x w6 (by omega) (HG.out.keep HR6.out.all))
          have HB1 := Lib.hid hb1
          clear H2 HK HB2 hb1 hx3 hr1
          go_wp2_with fail
          refine HSM.out.mono ?_
          rintro e w9 ⟨v, ok, rfl, hk9, hnf⟩
          have hR9 := HR6.out.step hk9
          have q2 := cell_at (i := 2) hR9.q rfl
          have z2 := frozen_at (i := 2) hR9.q
          have hR10 := hR9.put HRL.out 2 (.int .i64 v)
          simp only [List.setIfInBounds_toArray, List.set_cons_zero, List.set_cons_succ] at hR10
          have HR10 := Lib.hid hR10
          have hb2 := Lib.hid (show readQ r = if ok = true then some ⟨key, 1, v, [], f1, f2⟩ else none from by
            rw [HB1.out]
            show (numF x).map _ = _
            rw [hnf]
            cases ok <;> rfl)
          clear hR9 hR10 hk9 hnf b2
          go_wp2_with fail
          go_meet
          exact ⟨⟨key, 1, v, [], f1, f2⟩, none, 0, ok, rfl, hb2.out, Nat.le_refl _, ⟨by show key.size ≤ 1000000; omega, Nat.zero_le _⟩, Sl.nil _ _ _ _ _, HR10.out⟩
        · have hno := Lib.hid (show readQ r = none from by
            rw [hb1]
            match rr, hr1 with
            | [], _ => rfl
            | [x], h => exact absurd rfl h
            | x :: y :: t, _ => rfl)
          have hm3 : ((m : Int) == 3) = false := by rw [beq_eq_false_iff_ne]; have := HML.out; omega
          clear H2 HK HB2 hb1 hr1
          go_wp2_with fail
          go_meet
          exact ⟨⟨key, 1, 0, [], f1, f2⟩, none, 0, false, rfl, hno.out, Nat.le_refl _, ⟨by show key.size ≤ 1000000; omega, Nat.zero_le _⟩, Sl.nil _ _ _ _ _, HR6.out⟩
      · obtain rfl : ki = 2 := HKK.out
        have hb2 := Lib.hid (show readQ r = some ⟨key, 2, 0, rr, f1, f2⟩ from by rw [HB2.out, if_neg (by decide), if_pos rfl])
        have q3 := cell_at (i := 3) HR6.out.q rfl
        have z3 := frozen_at (i := 3) HR6.out.q
        by_cases hr0 : rr.length = 0
        · obtain rfl : rr = [] := List.eq_nil_of_length_eq_zero hr0
          obtain rfl : m = 2 := HML.out
          have hq3 := HR6.out.put HRL.out 3 (.slice (some ⟨rb, d3, none⟩) 0 0)
          simp only [List.setIfInBounds_toArray, List.set_cons_zero, List.set_cons_succ] at hq3
          have HQ3 := Lib.hid hq3
          clear H2 HK HB2 hq3 hr0 hi2 hi3
          go_wp2_with fail
          go_meet
          exact ⟨⟨key, 2, 0, [], f1, f2⟩, _, 0, true, rfl, hb2.out, Nat.le_refl _, ⟨by show key.size ≤ 1000000; omega, Nat.zero_le _⟩, Sl.nil _ _ _ _ _, HQ3.out⟩
        · have hml := HML.out
          have h22 : (2 : Int) ≤ (m : Int) := by omega
          have hm2 : ¬ m = 2 := by omega
          have hq3 := HR6.out.put HRL.out 3 (.slice (some ⟨rb, d3 + 2, none⟩) (m - 2) (m - 2))
          simp only [List.setIfInBounds_toArray, List.set_cons_zero, List.set_cons_succ] at hq3
          have hrn : rr.length ≤ 1000 := by omega
          have hso : Sl RStr 1 (fun z => w.heap.size ≤ z) (w6.setCell ⟨rb + 1, 3, none⟩ (.slice (some ⟨rb, d3 + 2, none⟩) (m - 2) (m - 2))) (some ⟨rb, d3 + 2, none⟩) rr.length rr := Sl.of_strs rfl (by have := HRL.out; exact this) (fun i hi => by
            have h1 := HRR.out i hi
            refine cell_at hq3.row ?_
            rw [List.getElem?_toArray, List.getElem?_map, h1, List.getD_eq_getElem?_getD, List.getElem?_eq_getElem hi]; rfl) (fun x hx => by
            obtain ⟨i, hi, rfl⟩ := List.mem_iff_getElem.1 hx
            have := HSZ.out _ (List.mem_of_getElem? (HRR.out i hi)); omega)
          have HQ3 := Lib.hid hq3
          have HSO := Lib.hid hso
          clear H2 HK HB2 hq3 hso hr0 hi2 hi3 hml
          go_wp2_with fail
          go_meet
          have hml : m - 2 = rr.length := by have := HML.out; omega
          have h5 := HQ3.out
          have h6 := HSO.out
          rw [hml] at h5 h6 ⊢
          exact ⟨⟨key, 2, 0, rr, f1, f2⟩, _, rr.length, true, rfl, hb2.out, Nat.le_refl _, ⟨by show key.size ≤ 1000000; omega, hrn⟩, h6, h5⟩
      · obtain rfl : ki = 3 := HKK.out
        have hb1 : readQ r = oneQ key 3 f1 f2 rr := by rw [HB2.out, if_neg (by decide), if_neg (by decide)]
        by_cases hr1 : rr.length = 1
        · obtain ⟨x, rfl⟩ : ∃ x, rr = [x] := List.length_eq_one_iff.1 hr1
          obtain rfl : m = 3 := HML.out
          have hx3 : ws[d3 + 2]? = some x := HRR.out 0 (by simp)
          have b2 : w6.cell? ⟨rb, d3 + 2, none⟩ = some (.string x) := HWF.out _ _ hx3 _ _ HR6.out
          have hxs : x.size ≤ 900 := by have := HSZ.out x (List.mem_of_getElem? hx3); omega
          have HSM := Lib.hid (refNumber_any x w6 (by omega) (HG.out.keep HR6.out.all))
          have HB1 := Lib.hid hb1
          clear H2 HK HB2 hb1 hx3 hr1
          go_wp2_with fail
          refine HSM.out.mono ?_
          rintro e w9 ⟨v, ok, rfl, hk9, hnf⟩
          have hR9 := HR6.out.step hk9
          have q2 := cell_at (i := 2) hR9.q rfl
          have z2 := frozen_at (i := 2) hR9.q
          have hR10 := hR9.put HRL.out 2 (.int .i64 v)
          simp only [List.setIfInBounds_toArray, List.set_cons_zero, List.set_cons_succ] at hR10
          have HR10 := Lib.hid hR10
          have hb2 := Lib.hid (show readQ r = if ok = true then some ⟨key, 3, v, [], f1, f2⟩ else none from by
            rw [HB1.out]
            show (numF x).map _ = _
            rw [hnf]
            cases ok <;> rfl)
          clear hR9 hR10 hk9 hnf b2
          go_wp2_with fail
          go_meet
          exact ⟨⟨key, 3, v, [], f1, f2⟩, none, 0, ok, rfl, hb2.out, Nat.le_refl _, ⟨by show key.size ≤ 1000000; omega, Nat.zero_le _⟩, Sl.nil _ _ _ _ _, HR10.out⟩
        · have hno := Lib.hid (show readQ r = none from by
            rw [hb1]
            match rr, hr1 with
            | [], _ => rfl
            | [x], h => exact absurd rfl h
            | x :: y :: t, _ => rfl)
          have hm3 : ((m : Int) == 3) = false := by rw [beq_eq_false_iff_ne]; have := HML.out; omega
          clear H2 HK HB2 hb1 hr1
          go_wp2_with fail
          go_meet
          exact ⟨⟨key, 3, 0, [], f1, f2⟩, none, 0, false, rfl, hno.out, Nat.le_refl _, ⟨by show key.size ≤ 1000000; omega, Nat.zero_le _⟩, Sl.nil _ _ _ _ _, HR6.out⟩
    case rest =>
    obtain ⟨q, oa, oc, gd, rfl, hq, hoc, hqs, hso, hR7⟩ := hcut
    obtain ⟨w7, rfl⟩ : ∃ x : World, x = wc := ⟨_, rfl⟩
    have HQ := Lib.hid hq
    have hrow := hR7.all.heap HOV.out trivial
    have ho0 := cell_at (i := 0) hrow rfl
    have hacc7 := HACC.out.keepAll RQst.ok hR7.all
    have hal := hacc7.lt
    have hws := hR7.all.size
    have hobs := HOB.out
    have hso2 := hso.mono RStr.ok (G := fun z => z ≠ ob ∧ ov.ownBlock ≠ some z) (fun z hz => ⟨by omega, fun e => by have := (HACC.out.lt z e).2; omega⟩)
    have hso3 := Lib.hid (hso2.keep RStr.ok (Kept.alloc _ w7 (.cells #[.string q.key, .int .i64 q.kind, .int .i64 q.most, .slice oa q.opts.length oc, .bool q.needed, .bool q.secret] 146)))
    have HAL := Lib.hid hR7.all
    have HRW := Lib.hid hrow
    have c0 := cell_at (i := 0) hR7.q rfl
    have c1 := cell_at (i := 1) hR7.q rfl
    have c2 := cell_at (i := 2) hR7.q rfl
    have c3 := cell_at (i := 3) hR7.q rfl
    have c4 := cell_at (i := 4) hR7.q rfl
    have c5 := cell_at (i := 5) hR7.q rfl
    obtain ⟨av, cv, rfl, -⟩ := hacc7.form
    have HAC := Lib.hid hacc7
    have hzo := frozen_at (i := 0) hrow
    have HLN := Lib.hid HXL.out
    clear q1 hR6 HR6 hR7 hq hso hso2 hrow hal hacc7 hk4 H2 HK HB2 hi2 hi3
    go_wp2_with (at_builtin; refine wp_append1 RQst.ok _ rfl _ _ 26 rfl (ob + 1) 146 (.agg #[.string ⟨#[]⟩, .int .i64 0, .int .i64 0, .slice none 0 0, .bool false, .bool false]) 6 64 Tryz.underlying26 (by kernel_rfl) rfl (by decide) (fun z => z ≠ ob) _ xs rfl (HAC.out.keepAll RQst.ok (Kept.alloc _ _ _)) ⟨_, 0, none⟩ 1 [.string q.key, .int .i64 q.kind, .int .i64 q.most, .slice oa q.opts.length oc, .bool q.needed, .bool q.secret] rfl rfl (World.news_of_block (cs := #[.string q.key, .int .i64 q.kind, .int .i64 q.most, .slice oa q.opts.length oc, .bool q.needed, .bool q.secret]) (heap_at _ _ _ (by simp))) (by simp [Value.oneCell']) q ⟨oa, oc, rfl, hoc, hqs, hso3.out⟩ (by have := HXL.out; omega) (by decide) (by simp; omega) ?_)
    intro p' c' w9 hacc9 hg9 _
    have k1 : Kept (fun z => z < ob + 1) w w9 := ((HAL.out.mono (G := fun z => z < ob + 1) (fun _ _ => trivial)).then_alloc _).grown hg9 (fun j hj => Or.inr (by have := (HAC.out.lt j hj).1; omega))
    have hr9 := k1.heap HOV.out (by omega)
    have hr10 := heap_setCell_at _ ob 0 (.slice p' (xs.length + 1) c') _ _ _ hr9
    simp only [List.setIfInBounds_toArray, List.set_cons_zero] at hr10
    have hacc10 := hacc9.keep RQst.ok (G := fun z => z ≠ ob) (Kept.setCell _ ⟨ob, 0, none⟩ (.slice p' (xs.length + 1) c') (by simp)) (fun _ h => h) (fun j hj => by have := (hacc9.lt j hj).1; omega)
    have k2 : Kept (fun z => z < ob) w (w9.setCell ⟨ob, 0, none⟩ (.slice p' (xs.length + 1) c')) := (k1.mono (G := fun z => z < ob) (fun z h => by omega)).then_setCell _ _ (by simp)
    have e0 := cell_at (i := 0) hr9 rfl
    have e1 := frozen_at (i := 0) hr9
    have HFIN := Lib.hid (show LnPost r ob k xs w (.returned (.bool gd)) (w9.setCell ⟨ob, 0, none⟩ (.slice p' (xs.length + 1) c')) from by
      refine ⟨?_, k2⟩
      cases gd with
      | false => exact Or.inl ⟨HQ.out, rfl⟩
      | true => exact Or.inr ⟨q, HQ.out, rfl, _, hr10, hacc10, by rw [List.length_append, HXL.out]; rfl⟩)
    clear hr9 hr10 hacc9 hacc10 k1 k2
    go_wp2_with fail
    go_ret
    exact HFIN.out
end Go.Proofs.YtjbaijgdkkccbaaGreatDoor
