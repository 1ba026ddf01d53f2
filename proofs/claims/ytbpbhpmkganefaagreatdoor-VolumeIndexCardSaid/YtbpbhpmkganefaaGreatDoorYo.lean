/- How a paper is cited: the authors, the title, the pages. No program in sight. -/
import Derived.Test.YtbpbhpmkganefaaGreatDoorYp
import Derived.Test.YtbpbhpmkganefaaGreatDoorFn
import Derived.Test.YtbpbhpmkganefaaGreatDoorWg
import Derived.Test.YtbpbhpmkganefaaGreatDoorVe
import Derived.Test.YtbpbhpmkganefaaGreatDoorZm
namespace Go.Proofs.YtbpbhpmkganefaaGreatDoor
open Go.RowKit

def commaB : ByteArray := ⟨#[44, 32]⟩
def andB : ByteArray := ⟨#[32, 97, 110, 100, 32]⟩
def colonB : ByteArray := ⟨#[58, 32]⟩
def dashB : ByteArray := ⟨#[45]⟩
/-- What stands ahead of name k of n. -/
def sepN (n k : Nat) : ByteArray := if k = 0 then ⟨#[]⟩ else if k + 1 = n then andB else commaB
/-- The first k names. -/
def namesTo (ns : List ByteArray) : Nat → ByteArray
  | 0 => ⟨#[]⟩
  | k + 1 => (namesTo ns k ++ sepN ns.length k) ++ ns.getD k ⟨#[]⟩
theorem sepN_zero (n : Nat) : sepN n 0 = ⟨#[]⟩ := rfl
theorem sepN_last {n k : Nat} (h : k ≠ 0) (h2 : k + 1 = n) : sepN n k = andB := by rw [sepN, if_neg h, if_pos h2]
theorem sepN_mid {n k : Nat} (h : k ≠ 0) (h2 : k + 1 ≠ n) : sepN n k = commaB := by rw [sepN, if_neg h, if_neg h2]
theorem sepN_size (n k : Nat) : (sepN n k).size ≤ 5 := by
  unfold sepN
  split
  · exact Nat.zero_le _
  · split
    · exact Nat.le_refl 5
    · show 2 ≤ 5
      omega
theorem ba_nil (a : ByteArray) : (⟨#[]⟩ : ByteArray) ++ a = a := ByteArray.empty_append
theorem ba_nil' (a : ByteArray) : a ++ (⟨#[]⟩ : ByteArray) = a := ByteArray.append_empty
theorem namesTo_succ {ns : List ByteArray} {k : Nat} {x : ByteArray} (h : ns[k]? = some x) : namesTo ns (k + 1) = (namesTo ns k ++ sepN ns.length k) ++ x := by
  rw [namesTo, List.getD_eq_getElem?_getD, h]; rfl
theorem namesTo_size {ns : List ByteArray} {M : Nat} (h : ∀ x ∈ ns, x.size ≤ M) : ∀ k, (namesTo ns k).size ≤ k * (M + 5)
  | 0 => Nat.zero_le _
  | k + 1 => by
    have h1 := namesTo_size h k
    have h2 := sepN_size ns.length k
    have h3 : (ns.getD k ⟨#[]⟩).size ≤ M := by
      rw [List.getD_eq_getElem?_getD]
      cases hx : ns[k]? with
      | none => exact Nat.zero_le _
      | some x => exact h x (List.mem_of_getElem? hx)
    rw [namesTo, ByteArray.size_append, ByteArray.size_append, Nat.add_mul]
    omega
theorem join_snoc (xs : List (List UInt8)) (x sep : List UInt8) (h : xs ≠ []) : Lib.join (xs ++ [x]) sep = (Lib.join xs sep ++ sep) ++ x := by
  cases xs with
  | nil => exact absurd rfl h
  | cons y r =>
    rw [List.cons_append, Lib.join_cons, Lib.join_cons]
    simp [Lib.joinTail, List.append_assoc]
/-- strings.Join, by bytes. -/
def joinB (ns : List ByteArray) : ByteArray := ⟨(Lib.join (ns.map fun p => p.data.toList) commaB.data.toList).toArray⟩
theorem ba_ext {a b : ByteArray} (h : a.data.toList = b.data.toList) : a = b := Go.WideShapes.bytes_inj h
theorem namesTo_join {ns : List ByteArray} : ∀ k, k + 1 ≤ ns.length → namesTo ns k = joinB (ns.take k)
  | 0, _ => by
    rw [namesTo, List.take_zero]; rfl
  | k + 1, h => by
    have h1 := namesTo_join (ns := ns) k (by omega)
    obtain ⟨x, hx⟩ : ∃ x, ns[k]? = some x := ⟨_, List.getElem?_eq_getElem (show k < ns.length by omega)⟩
    have htk : ns.take (k + 1) = ns.take k ++ [x] := by
      obtain ⟨hk, rfl⟩ := List.getElem?_eq_some_iff.1 hx
      rw [List.take_succ_eq_append_getElem hk]
    rw [namesTo_succ hx, htk]
    by_cases hk : k = 0
    · subst hk
      rw [sepN_zero, namesTo, ba_nil', ba_nil, List.take_zero]
      apply ba_ext
      simp [joinB, Lib.join_one]
    · rw [sepN_mid hk (by omega), h1]
      apply ba_ext
      have hne : (ns.take k).map (fun p => p.data.toList) ≠ [] := by
        intro e
        have := congrArg List.length e
        rw [List.length_map, List.length_take, List.length_nil] at this
        omega
      simp only [joinB, List.map_append, List.map_cons, List.map_nil]
      rw [join_snoc _ _ _ hne]
      simp
/-- As the reference writes the names. -/
theorem namesTo_ref {ns : List ByteArray} {x : ByteArray} {n : Nat} (hn : ns.length = n + 1) (hx : ns[n]? = some x) :
    namesTo ns (n + 1) = (joinB (ns.take n) ++ (if 1 < n + 1 then andB else ⟨#[]⟩)) ++ x := by
  rw [namesTo_succ hx, namesTo_join n (by omega)]
  by_cases h0 : n = 0
  · subst h0
    rw [sepN_zero, if_neg (by omega)]
  · rw [sepN_last h0 hn.symm, if_pos (by omega)]
abbrev numB (n : Int) : ByteArray := ⟨(Lib.itoa n).toArray⟩
/-- The citation. -/
def citeT (ns : List ByteArray) (title : ByteArray) (lo hi : Int) : ByteArray :=
  let s := namesTo ns ns.length ++ (((colonB ++ title) ++ commaB) ++ numB lo)
  if lo < hi then s ++ (dashB ++ numB hi) else s
theorem citeT_one {ns : List ByteArray} {title : ByteArray} {lo hi : Int} (h : ¬ lo < hi) : citeT ns title lo hi = namesTo ns ns.length ++ (((colonB ++ title) ++ commaB) ++ numB lo) := by rw [citeT]; simp [h]
theorem citeT_two {ns : List ByteArray} {title : ByteArray} {lo hi : Int} (h : lo < hi) : citeT ns title lo hi = (namesTo ns ns.length ++ (((colonB ++ title) ++ commaB) ++ numB lo)) ++ (dashB ++ numB hi) := by rw [citeT]; simp [h]
/-- The names of a paper's authors. -/
def citeN (cs : List Cred) : List ByteArray := cs.map fun c => initsB c.name
theorem citeN_at {cs : List Cred} {j : Nat} {c : Cred} (h : cs[j]? = some c) : (citeN cs)[j]? = some (initsB c.name) := by
  rw [citeN, List.getElem?_map, h]; rfl
theorem initsB_small {s : ByteArray} (h : lineB s 100 = true) : (initsB s).size ≤ 100000 := by
  have h0 := lineB_small h
  have h1 := famB_size h0
  have h2 := initsTo_size h0 (cutN s) (by have := cutN_lt s; omega)
  have h3 := cutN_lt s
  have h4 := wordsB_many s
  have h5 : 506 * cutN s ≤ 506 * 101 := Nat.mul_le_mul_left _ (by omega)
  rw [initsB, ByteArray.size_append]
  omega
theorem citeN_size {cs : List Cred} (h : CredOk cs) : ∀ x ∈ citeN cs, x.size ≤ 100000 := by
  intro x hx
  obtain ⟨c, hc, rfl⟩ := List.mem_map.1 hx
  exact initsB_small (h.names c hc).2
theorem leavesF_bd {xs : List Fin4} {right : Bool} (hp : ∀ x ∈ xs, 1 ≤ x.pages ∧ x.pages ≤ 100) : ∀ {ps : List ByteArray} {page : Int}, 1 ≤ page → ∀ x ∈ leavesF xs right page ps, 1 ≤ x.lo ∧ x.lo ≤ page + 101 * ps.length ∧ x.lo - 1 ≤ x.hi ∧ x.hi ≤ page + 101 * ps.length + 100
  | [], page, _, x, hx => by simp [leavesF] at hx
  | p :: l, page, h1, x, hx => by
    have h3 : 0 ≤ pgOf xs p ∧ pgOf xs p ≤ 100 := by
      unfold pgOf
      split
      · rename_i f hf; have := hp f (List.mem_of_find?_eq_some hf); omega
      · omega
    have h4 : page ≤ nextPg right page ∧ nextPg right page ≤ page + 1 := by unfold nextPg; split <;> omega
    simp only [leavesF, List.mem_cons] at hx
    simp only [List.length_cons]
    rcases hx with rfl | hx
    · dsimp only; omega
    · have := leavesF_bd hp (ps := l) (page := nextPg right page + pgOf xs p) (right := right) (by omega) x hx
      omega
theorem leaf_bd {first : Int} {right : Bool} {cs : List Chap} {xs : List Fin4} (hok : VolOk first right cs xs) {x : Leaf3} (hx : x ∈ lvs first right cs xs) : 1 ≤ x.lo ∧ x.lo ≤ 100000 ∧ 0 ≤ x.hi ∧ x.hi ≤ 100000 := by
  have h1 := leavesF_bd (finalsF_rises hok.fin).2 hok.lo x hx
  have h2 : (allP cs).length ≤ 400 := by rw [← leavesF_length xs right first (allP cs)]; exact lvs_len hok
  have h4 := hok.hi
  omega
theorem title_small {xs : List Fin4} (h : finalsF xs = 0) {f : Fin4} (hf : f ∈ xs) : f.title.size ≤ 200 := by
  have := (lineB_size (finalsF_parts h f hf).2).2
  omega
theorem titleOf_some {xs : List Fin4} {p : ByteArray} {f : Fin4} (h : finOf xs p = some f) : titleOf xs p = f.title := by unfold titleOf; rw [h]
/-- What Cite answers. -/
noncomputable def citeE (first : Int) (right : Bool) (cs : List Chap) (xs : List Fin4) (p : ByteArray) : Int :=
  if volF first right cs xs ≠ 0 then volF first right cs xs else match leafOf (lvs first right cs xs) p with | some _ => 0 | none => 8
def citeR (first : Int) (right : Bool) (cs : List Chap) (xs : List Fin4) (p : ByteArray) : ByteArray :=
  match leafOf (lvs first right cs xs) p with | some x => citeT (citeN (crOf xs p)) (titleOf xs p) x.lo x.hi | none => ⟨#[]⟩
noncomputable def citeS (first : Int) (right : Bool) (cs : List Chap) (xs : List Fin4) (p : ByteArray) : ByteArray :=
  if volF first right cs xs ≠ 0 then ⟨#[]⟩ else citeR first right cs xs p
section
variable {first : Int} {right : Bool} {cs : List Chap} {xs : List Fin4} {p : ByteArray} {x : Leaf3}
theorem citeE_bad (h : volF first right cs xs ≠ 0) : citeE first right cs xs p = volF first right cs xs := by rw [citeE, if_pos h]
theorem citeS_bad (h : volF first right cs xs ≠ 0) : citeS first right cs xs p = ⟨#[]⟩ := by rw [citeS, if_pos h]
theorem citeE_none (h : volF first right cs xs = 0) (hx : leafOf (lvs first right cs xs) p = none) : citeE first right cs xs p = 8 := by rw [citeE, if_neg (by simp [h]), hx]
theorem citeE_some (h : volF first right cs xs = 0) (hx : leafOf (lvs first right cs xs) p = some x) : citeE first right cs xs p = 0 := by rw [citeE, if_neg (by simp [h]), hx]
theorem citeR_none (hx : leafOf (lvs first right cs xs) p = none) : citeR first right cs xs p = ⟨#[]⟩ := by rw [citeR, hx]
theorem citeR_some (hx : leafOf (lvs first right cs xs) p = some x) : citeR first right cs xs p = citeT (citeN (crOf xs p)) (titleOf xs p) x.lo x.hi := by rw [citeR, hx]
theorem citeS_ok (h : volF first right cs xs = 0) : citeS first right cs xs p = citeR first right cs xs p := by rw [citeS, if_neg (by simp [h])]
end
end Go.Proofs.YtbpbhpmkganefaaGreatDoor

/- Cite answers citeS and citeE. -/
namespace Go.Proofs.YtbpbhpmkganefaaGreatDoor
open Go.RowKit

/-- Function value g with what it has captured answers p of a leaf. -/
def AnswersLf (P : Program) (g : FuncId) (caps : Array Value) (w : World) (p : Leaf3 → Bool) : Prop :=
  ∀ (y : Leaf3) (wx : World), All w wx → Calls P g (#[.agg #[.string y.paper, .int .i64 y.lo, .int .i64 y.hi]] ++ caps) wx fun e w' => e = .returned (.bool (p y)) ∧ All wx w'

set_option maxHeartbeats 800000 in
theorem indexLeaf_any (g : FuncId) (caps : Array Value) (eg : ∀ args w, (callFunc g args).run Tryz.prog w = .ok (.enter g args) w) (p : Leaf3 → Bool)
    (a : Option Addr) (len cap : Nat) (ss : List Leaf3) (w : World) (hs : Sl RLeaf 3 (fun _ => True) w a len ss) (hl : len ≤ 1000000) (hp : AnswersLf Tryz.prog g caps w p) :
    Calls Tryz.prog 32 #[.slice a len cap, .func (.func g) #[] caps] w fun e w' => e = .returned (.int .i64 (findG p 0 ss)) ∧ All w w' := by
  have hlen := hs.len
  have HP := Lib.hid hp
  clear hp
  go_enter Tryz.func32, Tryz.ntmps32
  go_wp2
  go_loopw [5, 8] (fun _ i wr => ∃ k : Nat, k ≤ len ∧ i = .int .i64 k ∧ (ss.take k).any p = false ∧ All w wr) (fun _ i _ => len - (intOf i).toNat)
  case atStart => exact ⟨0, Nat.zero_le _, rfl, by simp, Kept.refl _ _⟩
  case round =>
    obtain ⟨k, hk, rfl, hnot, hall⟩ := hrel
    by_cases hlt : k < len
    · obtain ⟨b, off, y, ha, -, c0, c1, c2, hz, hy, -, htake⟩ := (hs.keep RLeaf.ok hall).atLeaf hlt
      have hltake : (ss.take k).length = k := by simp; omega
      have hsplit : ss = ss.take k ++ y :: ss.drop (k + 1) := by rw [← drop_at hy, List.take_append_drop]
      have Hsplit := Lib.hid hsplit
      have Htake := Lib.hid htake
      have Hl := Lib.hid hltake
      have Hnot := Lib.hid hnot
      clear hsplit htake hltake hlen hnot hy
      subst ha
      clear hs
      cases hpy : p y with
      | true =>
        have hfin : findG p 0 ss = k := by rw [Hsplit.out, findG_append Hnot.out, Hl.out, findG, if_pos hpy]; simp
        have Hfin := Lib.hid hfin
        clear hfin
        go_wp2_with fail
        refine (HP.out y _ hall).mono ?_
        rintro e w' ⟨rfl, hw⟩
        rw [hpy]
        go_wp2_with fail
        go_ret
        exact ⟨ret_int' Hfin.out.symm, hall.trans hw⟩
      | false =>
        go_wp2_with fail
        refine (HP.out y _ hall).mono ?_
        rintro e w' ⟨rfl, hw⟩
        rw [hpy]
        go_wp2_with fail
        go_roundw
        case rel => exact ⟨k + 1, by omega, by go_num, by rw [Htake.out, List.any_append, Hnot.out]; simp [hpy], hall.trans hw⟩
        case measure => simp [intOf]; omega
    · have hd : decide ((k : Int) < (len : Int)) = false := by simp; omega
      have hfin : findG p 0 ss = -1 := findG_neg (by rw [List.take_of_length_le (by omega)] at hnot; exact hnot)
      have Hfin := Lib.hid hfin
      clear hfin
      go_wp2
      go_ret
      exact ⟨ret_int' Hfin.out.symm, hall⟩

theorem cite1_any (kp : Nat) (p : ByteArray) (y : Leaf3) (w : World) (ck : w.cell? ⟨kp, 0, none⟩ = some (.string p)) :
    Calls Tryz.prog 33 #[.agg #[.string y.paper, .int .i64 y.lo, .int .i64 y.hi], .pointer (some ⟨kp, 0, none⟩)] w fun e w' => e = .returned (.bool (isP p y)) ∧ All w w' := by
  have hkp := lt_of_cell ck
  dsimp only at hkp
  have e1 : (y.paper.toList == p.toList) = isP p y := by
    by_cases h : y.paper = p
    · simp [isP, h]
    · have h2 : (y.paper.toList == p.toList) = false := by simp; exact fun e => h (bytes_ext e)
      rw [h2]; simp [isP, h]
  generalize isP p y = b at e1 ⊢
  go_enter Tryz.func33, Tryz.ntmps33
  go_wp2_with fail
  go_ret
  exact ⟨rfl, Kept.alloc _ _ _⟩

set_option maxRecDepth 100000 in
set_option maxHeartbeats 25600000 in
theorem cite_any (first : Int) (right : Bool) (av : Option Addr) (lv cv : Nat) (cs : List Chap) (af : Option Addr) (lf cf : Nat) (xs : List Fin4) (p : ByteArray) (w : World)
    (hv : Sl RChap 2 (fun _ => True) w av lv cs) (hf : Sl RFin 4 (fun _ => True) w af lf xs) (hlv : lv ≤ 1000) (hlf : lf ≤ 1000) (hg : Glob w) (hpw : Pow w) :
    Calls Tryz.prog 8 #[.agg #[.int .i64 first, .bool right, .slice av lv cv], .slice af lf cf, .string p] w fun e w' => e = .returned (.tuple #[.string (citeS first right cs xs p), .int .i64 (citeE first right cs xs p)]) ∧ All w w' := by
  have HG := Lib.hid hg
  have HP := Lib.hid hpw
  have hk0 : All w ((w.alloc (.cells #[.int .i64 first, .bool right, .slice av lv cv] 30)).alloc (.cells #[.string p] 9)) := (Kept.alloc _ _ _).then_alloc _
  have hblk := (Kept.alloc (fun _ => True) (w.alloc (.cells #[.int .i64 first, .bool right, .slice av lv cv] 30)) (.cells #[.string p] 9)).heap (heap_at w (.cells #[.int .i64 first, .bool right, .slice av lv cv] 30) _ rfl) trivial
  have hpb := heap_at (w.alloc (.cells #[.int .i64 first, .bool right, .slice av lv cv] 30)) (.cells #[.string p] 9) _ rfl
  obtain ⟨vb, hvb⟩ : ∃ b, b = w.heap.size := ⟨_, rfl⟩
  obtain ⟨pb, hpbe⟩ : ∃ b, b = (w.alloc (.cells #[.int .i64 first, .bool right, .slice av lv cv] 30)).heap.size := ⟨_, rfl⟩
  have HVB := Lib.hid hvb
  have HPB := Lib.hid (show pb = vb + 1 by rw [hpbe, hvb]; simp)
  rw [← hvb] at hblk
  rw [← hpbe] at hpb
  have v0 := cell_at (i := 0) hblk rfl
  have v1 := cell_at (i := 1) hblk rfl
  have v2 := cell_at (i := 2) hblk rfl
  have v3 := cell_at (i := 0) hpb rfl
  have hmf := hmfC
  clear hblk hpb hvb hpbe hg hpw
  by_cases h0 : volF first right cs xs = 0
  · have OK := Lib.hid (VolOk.of h0)
    have hlv' : lv ≤ 40 := by have := OK.out.len; have := hv.len; omega
    have HRs := Lib.hid (finalsF_rises OK.out.fin)
    have HZ := Lib.hid h0
    obtain ⟨ls, hls⟩ : ∃ ls, ls = lvs first right cs xs := ⟨_, rfl⟩
    have HLS := Lib.hid hls
    have HL4 := Lib.hid (show ls.length ≤ 400 by rw [hls]; exact lvs_len OK.out)
    obtain ⟨rs, hrs⟩ : ∃ r, r = citeS first right cs xs p := ⟨_, rfl⟩
    obtain ⟨re, hre⟩ : ∃ r, r = citeE first right cs xs p := ⟨_, rfl⟩
    have HRS := Lib.hid (hrs.trans (citeS_ok h0))
    have HRE := Lib.hid hre
    rw [← hrs, ← hre]
    clear hrs hre hls
    go_enter Tryz.func8, Tryz.ntmps8
    go_upto_region 1 with fail
    simp only [← HVB.out]
    simp only [← HPB.out]
    generalize ((w.alloc (.cells #[.int .i64 first, .bool right, .slice av lv cv] 30)).alloc (.cells #[.string p] 9)) = w1 at *
    go_wp2_with fail
    refine (checkVolume_any first right av lv cv cs af lf cf xs _ (hv.keep RChap.ok hk0) (hf.keep RFin.ok hk0) hlv hlf (HG.out.keep hk0)).mono ?_
    rintro e w2 ⟨rfl, hw2⟩
    have hk2 := hk0.trans hw2
    replace v0 := hw2.cell v0 trivial
    replace v1 := hw2.cell v1 trivial
    replace v2 := hw2.cell v2 trivial
    replace v3 := hw2.cell v3 trivial
    rw [h0]
    clear h0 hw2 hk0
    go_wp2_with fail
    refine (leaves_any first right av lv cv cs af lf cf xs _ (hv.keep RChap.ok hk2) (hf.keep RFin.ok hk2) hlv' hlf HRs.out.1 HRs.out.2 (chapsF_found OK.out.chap) OK.out.lo OK.out.hi).mono ?_
    rintro e w3 ⟨v, rfl, hacc, hw3⟩
    have hk3 : All w w3 := hk2.trans hw3
    replace v3 := hw3.cell v3 trivial
    obtain ⟨a, cap, rfl, hsl⟩ := hacc.sl RLeaf.ok (by decide) (G := fun _ => True) (fun _ h => h.elim) (fun _ _ => trivial)
    change Sl RLeaf 3 (fun _ => True) w3 a (lvs first right cs xs).length (lvs first right cs xs) at hsl
    rw [← HLS.out] at hsl
    obtain ⟨n, hn⟩ : ∃ n, n = ls.length := ⟨_, rfl⟩
    have hn4 : n ≤ 400 := by rw [hn]; exact HL4.out
    have hlen : (leavesF xs right first (allP cs)).length = n := by rw [hn, HLS.out]
    rw [hlen]
    rw [← hn] at hsl
    have eg : ∀ args w, (callFunc 33 args).run Tryz.prog w = .ok (.enter 33 args) w := enters_of Tryz.func33 (by kernel_rfl) rfl
    have hans : AnswersLf Tryz.prog 33 #[.pointer (some ⟨pb, 0, none⟩)] w3 (isP p) := fun y wx hwx => cite1_any pb p y wx (hwx.cell v3 trivial)
    have HIF := Lib.hid (indexLeaf_any 33 #[.pointer (some ⟨pb, 0, none⟩)] eg (isP p) a n cap ls w3 hsl (by omega) hans)
    clear hacc hlen eg hans v0 v1 v2 hn
    go_wp2_with fail
    refine HIF.out.mono ?_
    rintro e w4 ⟨rfl, hw4⟩
    have hk4 : All w w4 := hk3.trans hw4
    have hsl4 := hsl.keep RLeaf.ok hw4
    replace v3 := hw4.cell v3 trivial
    clear HIF hsl hw4 hw3 hk3 hk2
    rcases findG_find (p := isP p) (xs := ls) (k := 0) with ⟨hfn, hfe⟩ | ⟨i, x, hfs, hfe, hxi⟩
    · rw [hfe]
      have hlo : leafOf (lvs first right cs xs) p = none := by rw [leafOf_eq, ← HLS.out]; exact hfn
      have H1 := Lib.hid (HRS.out.trans (citeR_none hlo))
      have H2 := Lib.hid (HRE.out.trans (citeE_none HZ.out hlo))
      clear hfn hfe hlo
      go_wp2_with fail
      go_ret2
      exact ⟨ret_pair H1.out.symm H2.out.symm, hk4⟩
    · rw [hfe]
      have hlo : leafOf (lvs first right cs xs) p = some x := by rw [leafOf_eq, ← HLS.out]; exact hfs
      have hxp : x.paper = p := by have h9 := List.find?_some hfs; simpa [isP] using h9
      obtain ⟨f, hlf4⟩ := LeafOk.of OK.out (by rw [← HLS.out]; exact hxi)
      have hbd := leaf_bd OK.out (x := x) (by rw [← HLS.out]; exact List.mem_of_getElem? hxi)
      obtain ⟨hb1, hb2, hb3, hb4⟩ := hbd
      have hzi : ((0 + i : Nat) : Int) = (i : Int) := by omega
      rw [hzi]
      have hil : i < n := by have h9 := (List.getElem?_eq_some_iff.1 hxi).1; have := hsl4.len; omega
      have H2 := Lib.hid (HRE.out.trans (citeE_some HZ.out hlo))
      have H1 := Lib.hid (HRS.out.trans (citeR_some hlo))
      have HF := Lib.hid hlf4
      have HXI := Lib.hid hxi
      have HXP := Lib.hid hxp
      have dlt : decide ((i : Int) < 0) = false := by simp
      clear hfs hfe hlo hlf4 hxi hxp hzi
      have HFI := Lib.hid (final_any af lf cf xs p w4 (hf.keep RFin.ok hk4) hlf HRs.out.1)
      go_wp2_with fail
      refine HFI.out.mono ?_
      rintro e w5 ⟨rfl, hw5⟩
      rw [show finOf xs p = some f from by rw [← HXP.out]; exact HF.out.fin]
      have hk5 := hk4.trans hw5
      have hsl5 := hsl4.keep RLeaf.ok hw5
      obtain ⟨ix, hix⟩ : ∃ i, i = cntOf xs p := ⟨_, rfl⟩
      have HIX := Lib.hid (show xs[ix]? = some f by rw [hix, ← HXP.out]; exact HF.out.at')
      rw [← hix]
      have hixl : ix < lf := by
        have h1 := (List.getElem?_eq_some_iff.1 HIX.out).1
        have h2 := hf.len
        omega
      obtain ⟨bf, of, f', ac, cc, haf, -, -, ct1, -, ct, -, hcc, hcr, hf', -, -⟩ := hf.atFin hixl
      have hff : f' = f := by rw [HIX.out] at hf'; injection hf' with hf'; exact hf'.symm
      subst hff
      subst haf
      have htz : f'.title.size ≤ 200 := title_small OK.out.fin (List.mem_of_getElem? HIX.out)
      have g1 : (0 : Int) ≤ (ix : Int) := by omega
      have g2 : (ix : Int) < (lf : Int) := by omega
      obtain ⟨q, hq⟩ : ∃ q, q = f'.credits.length := ⟨_, rfl⟩
      have HQ := Lib.hid hq
      have hq20 : q ≤ 20 := by rw [hq]; exact HF.out.creds.len
      have hq1 : q ≠ 0 := by rw [hq]; exact HF.out.creds.ne
      rw [← hq] at ct hcr hcc
      obtain ⟨ns, hns⟩ : ∃ ns, ns = citeN f'.credits := ⟨_, rfl⟩
      have HNS := Lib.hid hns
      have HNL := Lib.hid (show ns.length = q by rw [hns, hq, citeN, List.length_map])
      have HNZ := Lib.hid (show ∀ x ∈ ns, x.size ≤ 100000 by rw [hns]; exact citeN_size HF.out.creds)
      have u := hk5.cell ct trivial
      clear hf' hix hq hns HFI hsl4 hw5 v3
      have HCT := Lib.hid (fun (wx : World) (kx : All w wx) => (⟨kx.cell ct trivial, kx.cell ct1 trivial⟩ : _ ∧ _))
      clear ct ct1
      go_wp2_with fail
      clear u
      go_loopw [13, 42] (fun o i wr => ∃ j : Nat, j ≤ q ∧ i = .int .i64 j ∧ ∃ s : ByteArray, o = .string s ∧ Hid (s = namesTo ns j) ∧ All w5 wr) (fun _ i _ => q - (intOf i).toNat)
      case atStart => exact ⟨0, Nat.zero_le _, rfl, ⟨#[]⟩, rfl, Lib.hid rfl, Kept.refl _ _⟩
      case round =>
        obtain ⟨j, hj, rfl, s, rfl, HS, hwr⟩ := hrel
        obtain ⟨wo, rfl⟩ : ∃ wo : World, wo = wr := ⟨_, rfl⟩
        have hsz : s.size ≤ 2100000 := by
          rw [HS.out]
          have h9 := namesTo_size HNZ.out j
          have h8 : j * (100000 + 5) ≤ 20 * (100000 + 5) := Nat.mul_le_mul_right _ (by omega)
          omega
        have hkr : All w wo := hk5.trans hwr
        obtain ⟨u3, -⟩ := HCT.out wo hkr
        by_cases hjl : j < q
        · obtain ⟨bp, op, c, hap, -, ck, cn, hz1, hz2, hc, -, -⟩ := hcr.atCred hjl
          subst hap
          replace ck := hkr.cell ck trivial
          replace cn := hkr.cell cn trivial
          have HMEM := Lib.hid (List.mem_of_getElem? hc)
          have hnm : c.name.size ≤ 100 := lineB_small (HF.out.creds.names c HMEM.out).2
          have HNA := Lib.hid (show ns[j]? = some (initsB c.name) by rw [HNS.out]; exact citeN_at hc)
          have HNU := Lib.hid (show namesTo ns (j + 1) = (s ++ sepN q j) ++ initsB c.name by rw [namesTo_succ HNA.out, HNL.out, ← HS.out])
          have hiz : (initsB c.name).size ≤ 100000 := initsB_small (HF.out.creds.names c HMEM.out).2
          obtain ⟨nm, hnmd⟩ : ∃ m, m = initsB c.name := ⟨_, rfl⟩
          have HNM := Lib.hid hnmd
          rw [← hnmd] at HNU hiz
          have HIN := Lib.hid (fun (wx : World) (kx : All wo wx) => (show Calls Tryz.prog 34 #[.string c.name] wx fun e w' => e = .returned (.string nm) ∧ All wx w' from by rw [hnmd]; exact initials_any c.name wx hnm (HG.out.keep (hkr.trans kx))))
          have hac : All wo (wo.alloc (.cells #[.string c.key, .string c.name] 61)) := Kept.alloc _ _ _
          have hcb := heap_at wo (.cells #[.string c.key, .string c.name] 61) _ rfl
          have cb1 := cell_at (i := 1) hcb rfl
          have u3a := hac.cell u3 trivial
          clear hc hnmd hcb
          by_cases hj0 : j = 0
          · have d0 : ((j : Int) == 0) = true := by simp [hj0]
            obtain ⟨t1, ht1, hz1', g3⟩ := catRun Tryz.prog s nm (by omega)
            have HT := Lib.hid (show t1 = namesTo ns (j + 1) by rw [HNU.out, ht1, show sepN q j = ⟨#[]⟩ from by rw [hj0]; rfl, ba_nil'])
            clear ht1 hz1' hj0
            go_wp2_with fail
            refine (HIN.out _ hac).mono ?_
            rintro e w7 ⟨rfl, hw7⟩
            go_wp2_with fail
            go_roundw
            case rel => exact ⟨j + 1, by omega, by go_num, t1, rfl, HT, hwr.trans (hac.trans hw7)⟩
            case measure => simp [intOf]; omega
          · have d0 : ((j : Int) == 0) = false := by simp [hj0]
            have fw : IntKind.i64.wrap ((q : Int) - 1) = (q : Int) - 1 := IntWalk.i64_in _ (by omega)
            by_cases hjq : j + 1 = q
            · have d1 : ((j : Int) == (q : Int) - 1) = true := by simp; omega
              have hzs : (⟨#[32, 97, 110, 100, 32]⟩ : ByteArray).size ≤ 5 := by decide
              obtain ⟨t1, ht1, hz1', g3⟩ := catRun Tryz.prog s ⟨#[32, 97, 110, 100, 32]⟩ (by omega)
              obtain ⟨t2, ht2, hz2', g4⟩ := catRun Tryz.prog t1 nm (by omega)
              have HT := Lib.hid (show t2 = namesTo ns (j + 1) by rw [HNU.out, ht2, ht1, show sepN q j = ⟨#[32, 97, 110, 100, 32]⟩ from sepN_last hj0 hjq])
              clear ht1 hz1' ht2 hz2' hzs hj0 hjq
              go_wp2_with fail
              refine (HIN.out _ hac).mono ?_
              rintro e w7 ⟨rfl, hw7⟩
              go_wp2_with fail
              go_roundw
              case rel => exact ⟨j + 1, by omega, by go_num, t2, rfl, HT, hwr.trans (hac.trans hw7)⟩
              case measure => simp [intOf]; omega
            · have d1 : ((j : Int) == (q : Int) - 1) = false := by simp; omega
              have hzs : (⟨#[44, 32]⟩ : ByteArray).size ≤ 5 := by decide
              obtain ⟨t1, ht1, hz1', g3⟩ := catRun Tryz.prog s ⟨#[44, 32]⟩ (by omega)
              obtain ⟨t2, ht2, hz2', g4⟩ := catRun Tryz.prog t1 nm (by omega)
              have HT := Lib.hid (show t2 = namesTo ns (j + 1) by rw [HNU.out, ht2, ht1, show sepN q j = ⟨#[44, 32]⟩ from sepN_mid hj0 hjq])
              clear ht1 hz1' ht2 hz2' hzs hj0 hjq
              go_wp2_with fail
              refine (HIN.out _ hac).mono ?_
              rintro e w7 ⟨rfl, hw7⟩
              go_wp2_with fail
              go_roundw
              case rel => exact ⟨j + 1, by omega, by go_num, t2, rfl, HT, hwr.trans (hac.trans hw7)⟩
              case measure => simp [intOf]; omega
        · have hdj : decide ((j : Int) < (q : Int)) = false := by simp; omega
          have hjq : j = ns.length := by have := HNL.out; omega
          rw [hjq] at HS
          clear hjq
          obtain ⟨bl, ol, x', hal, -, x0, x1, x2, -, hx', -, -⟩ := hsl5.atLeaf hil
          have hxx : x' = x := by rw [HXI.out] at hx'; injection hx' with hx'; exact hx'.symm
          subst hxx
          subst hal
          have HXC := Lib.hid (fun (wx : World) (kx : All w5 wx) => (⟨kx.cell x1 trivial, kx.cell x2 trivial⟩ : _ ∧ _))
          clear x0 x1 x2 hx' u3
          have hits := itoa_size x'.lo (by omega) (by omega)
          have hits2 := itoa_size x'.hi (by omega) (by omega)
          have HIT := Lib.hid (fun (z : Int) (hz : 0 ≤ z ∧ z ≤ 100000) (wx : World) (kx : All w wx) => itoa_any z (by omega) (by omega) wx (HP.out.keep kx))
          obtain ⟨il, hil9⟩ : ∃ m : ByteArray, m = ⟨(Lib.itoa x'.lo).toArray⟩ := ⟨_, rfl⟩
          obtain ⟨ih, hih9⟩ : ∃ m : ByteArray, m = ⟨(Lib.itoa x'.hi).toArray⟩ := ⟨_, rfl⟩
          rw [← hil9] at hits
          rw [← hih9] at hits2
          have HIL := Lib.hid (fun (wx : World) (kx : All w wx) => (show Calls Tryz.prog 35 #[.int .i64 x'.lo] wx fun e w' => e = .returned (.string il) ∧ All wx w' from by rw [hil9]; exact HIT.out x'.lo (by omega) wx kx))
          have HIH := Lib.hid (fun (wx : World) (kx : All w wx) => (show Calls Tryz.prog 35 #[.int .i64 x'.hi] wx fun e w' => e = .returned (.string ih) ∧ All wx w' from by rw [hih9]; exact HIT.out x'.hi (by omega) wx kx))
          have hc2 : (⟨#[58, 32]⟩ : ByteArray).size = 2 := rfl
          have hc3 : (⟨#[44, 32]⟩ : ByteArray).size = 2 := rfl
          have hc4 : (⟨#[45]⟩ : ByteArray).size = 1 := rfl
          obtain ⟨t1, ht1, hz1', g3⟩ := catRun Tryz.prog ⟨#[58, 32]⟩ f'.title (by omega)
          obtain ⟨t2, ht2, hz2', g4⟩ := catRun Tryz.prog t1 ⟨#[44, 32]⟩ (by omega)
          obtain ⟨t3, ht3, hz3', g5⟩ := catRun Tryz.prog t2 il (by omega)
          obtain ⟨t4, ht4, hz4', g6⟩ := catRun Tryz.prog s t3 (by omega)
          obtain ⟨t5, ht5, hz5', g7⟩ := catRun Tryz.prog ⟨#[45]⟩ ih (by omega)
          obtain ⟨t6, ht6, hz6', g8⟩ := catRun Tryz.prog t4 t5 (by omega)
          have HT4 := Lib.hid (show t4 = namesTo ns ns.length ++ (((colonB ++ titleOf xs p) ++ commaB) ++ numB x'.lo) by rw [ht4, ht3, ht2, ht1, HS.out, hil9, show titleOf xs p = f'.title from titleOf_some (by rw [← HXP.out]; exact HF.out.fin)]; rfl)
          have HT6 := Lib.hid (show t6 = (namesTo ns ns.length ++ (((colonB ++ titleOf xs p) ++ commaB) ++ numB x'.lo)) ++ (dashB ++ numB x'.hi) by rw [ht6, ht5, HT4.out, hih9]; rfl)
          have H1' := Lib.hid (show rs = citeT ns (titleOf xs p) x'.lo x'.hi by rw [H1.out, HNS.out, show crOf xs p = f'.credits from by rw [← HXP.out]; exact HF.out.cr])
          have gi1 : (0 : Int) ≤ (i : Int) := by omega
          have gi2 : (i : Int) < (n : Int) := by omega
          clear ht1 ht2 ht3 ht4 ht5 ht6 hz1' hz2' hz3' hz4' hz5' hz6' hil9 hih9 hits hits2 hc2 hc3 hc4
          go_upto_region 19 with fail
          refine wp_region_inv 16 (by kernel_rfl) (by kernel_rfl) (by kernel_rfl) (fun _ wx => All wo wx)
            (DL [QIs ((Value.string s)), QIs ((Value.slice (some ⟨bf, of, none⟩) lf cf)), QIs ((Value.int .i64 (ix : Int))), QIs (Value.pointer (some ⟨bf, of + ix * 4, none⟩)), QIs (Value.pointer (some ⟨bf, of + ix * 4 + 1, none⟩)), QIs (Value.string f'.title), QIs (Value.string t1), QIs (Value.string t2), QIs ((Value.slice (some ⟨bl, ol, none⟩) n cap)), QIs ((Value.int .i64 (i : Int))), QIs (Value.pointer (some ⟨bl, ol + i * 3, none⟩)), QIs (Value.pointer (some ⟨bl, ol + i * 3 + 1, none⟩)), QIs (Value.int .i64 x'.lo), QIs (Value.string il), QIs (Value.string t3), QIs (Value.string t4)]) All
            (DL.keep (by simp only [List.forall_mem_cons, List.not_mem_nil, false_implies, implies_true, and_true]; exact ⟨QIs.stays _, QIs.stays _, QIs.stays _, QIs.stays _, QIs.stays _, QIs.stays _, QIs.stays _, QIs.stays _, QIs.stays _, QIs.stays _, QIs.stays _, QIs.stays _, QIs.stays _, QIs.stays _, QIs.stays _, QIs.stays _⟩)) ?_ ?_ ?_
          · exact Kept.drew _ _
          · intro i o t ho hd hi k' a' wx hk' hg hdf hts hoth hdeps
            have hszx := hg.size
            have hz : i = 0 ∨ i = 1 ∨ i = 2 ∨ i = 3 ∨ i = 4 ∨ i = 5 ∨ i = 6 ∨ i = 7 ∨ i = 8 ∨ i = 9 ∨ i = 10 ∨ i = 11 ∨ i = 12 ∨ i = 13 ∨ i = 14 ∨ i = 15 := by omega
            rcases hz with rfl | rfl | rfl | rfl | rfl | rfl | rfl | rfl | rfl | rfl | rfl | rfl | rfl | rfl | rfl | rfl
            · obtain rfl := Option.some.inj ho
              obtain rfl := Option.some.inj hd
              have e0 : a'.tmps.getD 13 undef = (Value.string s) := tmp_of ((hoth 13 (by decide)).trans rfl)
              clear hoth hdeps hdf hts ho
              refine wp_via (fun K' hK => ?_)
              have HK := Lib.hid hK
              clear hK
              go_simp
              exact HK.out _ _ ⟨_, rfl, hg, Kept.refl _ _, rfl⟩
            · obtain rfl := Option.some.inj ho
              obtain rfl := Option.some.inj hd
              have e0 : a'.tmps.getD 1 undef = (Value.slice (some ⟨bf, of, none⟩) lf cf) := tmp_of ((hoth 1 (by decide)).trans rfl)
              clear hoth hdeps hdf hts ho
              refine wp_via (fun K' hK => ?_)
              have HK := Lib.hid hK
              clear hK
              go_simp
              exact HK.out _ _ ⟨_, rfl, hg, Kept.refl _ _, rfl⟩
            · obtain rfl := Option.some.inj ho
              obtain rfl := Option.some.inj hd
              have e0 : a'.tmps.getD 11 undef = (Value.int .i64 (ix : Int)) := tmp_of ((hoth 11 (by decide)).trans rfl)
              clear hoth hdeps hdf hts ho
              refine wp_via (fun K' hK => ?_)
              have HK := Lib.hid hK
              clear hK
              go_simp
              exact HK.out _ _ ⟨_, rfl, hg, Kept.refl _ _, rfl⟩
            · obtain rfl := Option.some.inj ho
              obtain rfl := Option.some.inj hd
              have e0 : a'.tmps.getD 71 undef = (Value.slice (some ⟨bf, of, none⟩) lf cf) := hdeps 1 (by decide) 71 rfl
              have e1 : a'.tmps.getD 72 undef = (Value.int .i64 (ix : Int)) := hdeps 2 (by decide) 72 rfl
              clear hoth hdeps hdf hts ho
              refine wp_via (fun K' hK => ?_)
              have HK := Lib.hid hK
              clear hK
              go_simp
              exact HK.out _ _ ⟨_, rfl, hg, Kept.refl _ _, rfl⟩
            · obtain rfl := Option.some.inj ho
              obtain rfl := Option.some.inj hd
              have e0 : a'.tmps.getD 73 undef = Value.pointer (some ⟨bf, of + ix * 4, none⟩) := hdeps 3 (by decide) 73 rfl
              clear hoth hdeps hdf hts ho
              refine wp_via (fun K' hK => ?_)
              have HK := Lib.hid hK
              clear hK
              go_simp
              exact HK.out _ _ ⟨_, rfl, hg, Kept.refl _ _, rfl⟩
            · obtain rfl := Option.some.inj ho
              obtain rfl := Option.some.inj hd
              have e0 : a'.tmps.getD 74 undef = Value.pointer (some ⟨bf, of + ix * 4 + 1, none⟩) := hdeps 4 (by decide) 74 rfl
              have c9 := (HCT.out wx (hkr.trans hg)).2
              clear hoth hdeps hdf hts ho
              refine wp_via (fun K' hK => ?_)
              have HK := Lib.hid hK
              clear hK
              go_simp
              exact HK.out _ _ ⟨_, rfl, hg, Kept.refl _ _, rfl⟩
            · obtain rfl := Option.some.inj ho
              obtain rfl := Option.some.inj hd
              have e0 : a'.tmps.getD 75 undef = Value.string f'.title := hdeps 5 (by decide) 75 rfl
              clear hoth hdeps hdf hts ho
              refine wp_via (fun K' hK => ?_)
              have HK := Lib.hid hK
              clear hK
              go_simp
              exact HK.out _ _ ⟨_, rfl, hg, Kept.refl _ _, rfl⟩
            · obtain rfl := Option.some.inj ho
              obtain rfl := Option.some.inj hd
              have e0 : a'.tmps.getD 76 undef = Value.string t1 := hdeps 6 (by decide) 76 rfl
              clear hoth hdeps hdf hts ho
              refine wp_via (fun K' hK => ?_)
              have HK := Lib.hid hK
              clear hK
              go_simp
              exact HK.out _ _ ⟨_, rfl, hg, Kept.refl _ _, rfl⟩
            · obtain rfl := Option.some.inj ho
              obtain rfl := Option.some.inj hd
              have e0 : a'.tmps.getD 9 undef = (Value.slice (some ⟨bl, ol, none⟩) n cap) := tmp_of ((hoth 9 (by decide)).trans rfl)
              clear hoth hdeps hdf hts ho
              refine wp_via (fun K' hK => ?_)
              have HK := Lib.hid hK
              clear hK
              go_simp
              exact HK.out _ _ ⟨_, rfl, hg, Kept.refl _ _, rfl⟩
            · obtain rfl := Option.some.inj ho
              obtain rfl := Option.some.inj hd
              have e0 : a'.tmps.getD 10 undef = (Value.int .i64 (i : Int)) := tmp_of ((hoth 10 (by decide)).trans rfl)
              clear hoth hdeps hdf hts ho
              refine wp_via (fun K' hK => ?_)
              have HK := Lib.hid hK
              clear hK
              go_simp
              exact HK.out _ _ ⟨_, rfl, hg, Kept.refl _ _, rfl⟩
            · obtain rfl := Option.some.inj ho
              obtain rfl := Option.some.inj hd
              have e0 : a'.tmps.getD 78 undef = (Value.slice (some ⟨bl, ol, none⟩) n cap) := hdeps 8 (by decide) 78 rfl
              have e1 : a'.tmps.getD 79 undef = (Value.int .i64 (i : Int)) := hdeps 9 (by decide) 79 rfl
              clear hoth hdeps hdf hts ho
              refine wp_via (fun K' hK => ?_)
              have HK := Lib.hid hK
              clear hK
              go_simp
              exact HK.out _ _ ⟨_, rfl, hg, Kept.refl _ _, rfl⟩
            · obtain rfl := Option.some.inj ho
              obtain rfl := Option.some.inj hd
              have e0 : a'.tmps.getD 80 undef = Value.pointer (some ⟨bl, ol + i * 3, none⟩) := hdeps 10 (by decide) 80 rfl
              clear hoth hdeps hdf hts ho
              refine wp_via (fun K' hK => ?_)
              have HK := Lib.hid hK
              clear hK
              go_simp
              exact HK.out _ _ ⟨_, rfl, hg, Kept.refl _ _, rfl⟩
            · obtain rfl := Option.some.inj ho
              obtain rfl := Option.some.inj hd
              have e0 : a'.tmps.getD 81 undef = Value.pointer (some ⟨bl, ol + i * 3 + 1, none⟩) := hdeps 11 (by decide) 81 rfl
              have c9 := (HXC.out wx (hwr.trans hg)).1
              clear hoth hdeps hdf hts ho
              refine wp_via (fun K' hK => ?_)
              have HK := Lib.hid hK
              clear hK
              go_simp
              exact HK.out _ _ ⟨_, rfl, hg, Kept.refl _ _, rfl⟩
            · obtain rfl := Option.some.inj ho
              obtain rfl := Option.some.inj hd
              have e0 : a'.tmps.getD 82 undef = Value.int .i64 x'.lo := hdeps 12 (by decide) 82 rfl
              clear hoth hdeps hdf hts ho
              refine wp_via (fun K' hK => ?_)
              have HK := Lib.hid hK
              clear hK
              go_simp
              refine (HIL.out wx (hkr.trans hg)).mono ?_
              rintro e w4' ⟨rfl, hw4'⟩
              exact HK.out _ _ ⟨_, rfl, hg.trans hw4', hw4', rfl⟩
            · obtain rfl := Option.some.inj ho
              obtain rfl := Option.some.inj hd
              have e0 : a'.tmps.getD 77 undef = Value.string t2 := hdeps 7 (by decide) 77 rfl
              have e1 : a'.tmps.getD 83 undef = Value.string il := hdeps 13 (by decide) 83 rfl
              clear hoth hdeps hdf hts ho
              refine wp_via (fun K' hK => ?_)
              have HK := Lib.hid hK
              clear hK
              go_simp
              exact HK.out _ _ ⟨_, rfl, hg, Kept.refl _ _, rfl⟩
            · obtain rfl := Option.some.inj ho
              obtain rfl := Option.some.inj hd
              have e0 : a'.tmps.getD 70 undef = Value.string s := hdeps 0 (by decide) 70 rfl
              have e1 : a'.tmps.getD 84 undef = Value.string t3 := hdeps 14 (by decide) 84 rfl
              clear hoth hdeps hdf hts ho
              refine wp_via (fun K' hK => ?_)
              have HK := Lib.hid hK
              clear hK
              go_simp
              exact HK.out _ _ ⟨_, rfl, hg, Kept.refl _ _, rfl⟩
          · intro wx f9 hgx hd
            have e85 : f9 85 = Value.string t4 := hd 15 85 (by decide) rfl
            rw [show dsts _ 16 = [70, 71, 72, 73, 74, 75, 76, 77, 78, 79, 80, 81, 82, 83, 84, 85] from by kernel_rfl]
            simp only [List.map_cons, List.map_nil, puts, Act.put, e85, List.drop_succ_cons, List.drop_zero]
            generalize f9 70 = f70
            generalize f9 71 = f71
            generalize f9 72 = f72
            generalize f9 73 = f73
            generalize f9 74 = f74
            generalize f9 75 = f75
            generalize f9 76 = f76
            generalize f9 77 = f77
            generalize f9 78 = f78
            generalize f9 79 = f79
            generalize f9 80 = f80
            generalize f9 81 = f81
            generalize f9 82 = f82
            generalize f9 83 = f83
            generalize f9 84 = f84
            simp only [List.setIfInBounds_toArray, List.set_cons_zero, List.set_cons_succ]
            have hkx := hkr.trans hgx
            obtain ⟨y1, y2⟩ := HXC.out wx (hwr.trans hgx)
            clear hd e85 f9 hgx
            by_cases hgt : x'.lo < x'.hi
            · have dgt : decide (x'.lo < x'.hi) = true := by simpa using hgt
              have HF9 := Lib.hid (show t6 = rs by rw [H1'.out, citeT_two hgt, HT6.out])
              go_upto_region 20 with fail
              go_quiet (fail)
              go_wp2_with fail
              refine (HIH.out _ (hkx.trans (by repeat (first | exact Kept.refl _ _ | refine Kept.then_drew ?_ | refine Kept.then_drewN ?_ _)))).mono ?_
              rintro e w7 ⟨rfl, hw7⟩
              go_wp2_with fail
              go_ret2
              exact ⟨ret_pair HF9.out H2.out.symm, hkx.trans (Kept.trans (by repeat (first | exact Kept.refl _ _ | refine Kept.then_drew ?_ | refine Kept.then_drewN ?_ _)) hw7)⟩
            · have dgt : decide (x'.lo < x'.hi) = false := by simpa using hgt
              have HF9 := Lib.hid (show t4 = rs by rw [H1'.out, citeT_one hgt, HT4.out])
              go_upto_region 20 with fail
              go_quiet (fail)
              go_wp2_with fail
              go_ret2
              exact ⟨ret_pair HF9.out H2.out.symm, hkx.trans (by repeat (first | exact Kept.refl _ _ | refine Kept.then_drew ?_ | refine Kept.then_drewN ?_ _))⟩
  · obtain ⟨er, her⟩ : ∃ er, er = volF first right cs xs := ⟨_, rfl⟩
    have hne : (er != 0) = true := by rw [her]; simpa using h0
    have H1 := Lib.hid (citeS_bad (p := p) h0)
    have H2 := Lib.hid ((citeE_bad (p := p) h0).trans her.symm)
    rw [H1.out, H2.out]
    go_enter Tryz.func8, Tryz.ntmps8
    go_upto_region 1 with fail
    simp only [← HVB.out]
    simp only [← HPB.out]
    generalize ((w.alloc (.cells #[.int .i64 first, .bool right, .slice av lv cv] 30)).alloc (.cells #[.string p] 9)) = w1 at *
    go_wp2_with fail
    refine (checkVolume_any first right av lv cv cs af lf cf xs _ (hv.keep RChap.ok hk0) (hf.keep RFin.ok hk0) hlv hlf (HG.out.keep hk0)).mono ?_
    rintro e w2 ⟨rfl, hw2⟩
    have hk2 := hk0.trans hw2
    replace v0 := hw2.cell v0 trivial
    replace v1 := hw2.cell v1 trivial
    replace v2 := hw2.cell v2 trivial
    replace v3 := hw2.cell v3 trivial
    rw [← her]
    clear her h0
    go_wp2_with fail
    go_ret2
    exact ⟨rfl, hk2⟩
end Go.Proofs.YtbpbhpmkganefaaGreatDoor
