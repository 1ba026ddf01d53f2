/- What Options gives, plain: how many reviews that count chose each option. -/
import Derived.Test.YthhmgblcccbdaaaGreatDoorMo
import Derived.Test.YthhmgblcccbdaaaGreatDoorBr
namespace Go.Proofs.YthhmgblcccbdaaaGreatDoor
open Go.RowKit

def bumpA (opts : List ByteArray) (l : List Int) (a : Ans4) : List Int := l.set (idxFrom a.option 0 opts).toNat (l.getD (idxFrom a.option 0 opts).toNat 0 + 1)
def optZ (opts : List ByteArray) (key p : ByteArray) (l : List Int) (z : Raw) : List Int := if z.1.paper = p then (z.1.answers.find? (isA key)).toList.foldl (bumpA opts) l else l
def optY (opts : List ByteArray) (key p q : ByteArray) (l : List Int) (ls : List Ans4) : List Int := if q = p then (ls.filter (isA key)).foldl (bumpA opts) l else l
def optL (opts : List ByteArray) (key p : ByteArray) (zs : List Raw) : List Int := zs.foldl (optZ opts key p) (List.replicate opts.length 0)
def optP (opts : List ByteArray) (ts : List Raw) (tm : Int) (key p : ByteArray) (l : List Int) (y : Pair2) : List Int := optY opts key p y.paper l ((lastO ts (y.paper, y.person) tm true).getD raw0).1.answers
def optR (opts : List ByteArray) (ts : List Raw) (tm : Int) (key p : ByteArray) (ps : List Pair2) : List Int := ps.foldl (optP opts ts tm key p) (List.replicate opts.length 0)
theorem optR_gen {sheet : List Qst} {opts : List ByteArray} {ts : List Raw} (tm : Int) (key p : ByteArray) (hall : ∀ z ∈ ts, answersF sheet z.1.answers = 0) : ∀ (ps : List Pair2) (l : List Int), ps.foldl (optP opts ts tm key p) l = (doneL ts tm ps).foldl (optZ opts key p) l
 | [], _ => rfl
 | y :: ps, l => by
  rw [List.foldl_cons, optR_gen tm key p hall ps]
  cases ho : lastO ts (y.paper, y.person) tm true with
  | none =>
   have e2 : doneL ts tm (y :: ps) = doneL ts tm ps := by simp [doneL, ho]
   have e3 : optP opts ts tm key p l y = l := by rw [optP, ho, Option.getD_none, optY]; split <;> rfl
   rw [e2, e3]
  | some z =>
   have e2 : doneL ts tm (y :: ps) = z :: doneL ts tm ps := by simp [doneL, ho]
   have e3 : optP opts ts tm key p l y = optZ opts key p l z := by
    rw [optP, ho, Option.getD_some, optY, answersF_once (hall z (lastO_mem ho)) key, optZ, lastO_key ho]
   rw [e2, e3, List.foldl_cons]
theorem optR_eq {sheet : List Qst} {opts : List ByteArray} {ts : List Raw} (tm : Int) (key p : ByteArray) (hall : ∀ z ∈ ts, answersF sheet z.1.answers = 0) (ps : List Pair2) : optR opts ts tm key p ps = optL opts key p (doneL ts tm ps) := optR_gen tm key p hall ps _
theorem bumpA_len (opts : List ByteArray) (l : List Int) (a : Ans4) : (bumpA opts l a).length = l.length := by simp [bumpA]
theorem bumps_len (opts : List ByteArray) : ∀ (ls : List Ans4) (l : List Int), (ls.foldl (bumpA opts) l).length = l.length
 | [], _ => rfl
 | a :: ls, l => by rw [List.foldl_cons, bumps_len opts ls, bumpA_len]
theorem optZ_len (opts : List ByteArray) (key p : ByteArray) (l : List Int) (z : Raw) : (optZ opts key p l z).length = l.length := by
 rw [optZ]
 split
 ·exact bumps_len _ _ _
 ·rfl
theorem answersG_each {sheet : List Qst} : ∀ (l : List Ans4) (last : Int), answersG sheet last l = 0 → ∀ a ∈ l, ∃ q, sheet.find? (isQ a.question) = some q ∧ answerF q a = 0
 | [], _, _, _, ha => nomatch ha
 | a :: l, last, h, x, hx => by
  cases hn : sheet.find? (isQ a.question) with
  | none => rw [answersG_none hn] at h; omega
  | some q =>
   rw [answersG_some hn] at h
   split at h
   ·omega
   ·split at h
    ·rename_i h2; exact absurd h h2
    ·rename_i h2
     rcases List.mem_cons.1 hx with rfl | hx
     ·exact ⟨q, hn, Classical.not_not.1 h2⟩
     ·exact answersG_each l _ h x hx
theorem answersF_each {sheet : List Qst} {l : List Ans4} (h : answersF sheet l = 0) : ∀ a ∈ l, ∃ q, sheet.find? (isQ a.question) = some q ∧ answerF q a = 0 := by
 unfold answersF at h
 split at h
 ·omega
 ·exact answersG_each l _ h
theorem option_mem {sheet : List Qst} {l : List Ans4} {key : ByteArray} {q : Qst} {a : Ans4} (h : answersF sheet l = 0) (ha : a ∈ l) (hk : a.question = key) (hq : sheet.find? (isQ key) = some q) (h2 : q.kind = 2) : a.option ∈ q.opts := by
 obtain ⟨q', hq', hf⟩ := answersF_each h a ha
 rw [hk, hq] at hq'
 injection hq' with hq'
 subst hq'
 apply Classical.byContradiction
 intro hn
 have hb : memB a.option q.opts = false := by
  cases hm : memB a.option q.opts with
  | false => rfl
  | true => exact absurd (memB_iff.1 hm) hn
 unfold answerF at hf
 split at hf
 ·omega
 split at hf
 ·omega
 split at hf
 ·omega
 ·rename_i h3; exact h3 ⟨h2, hb⟩
theorem idxFrom_lt {x : ByteArray} : ∀ {ss : List ByteArray} {k : Nat}, x ∈ ss → ∃ i : Nat, idxFrom x k ss = ((k + i : Nat) : Int) ∧ i < ss.length
 | s :: l, k, h => by
  by_cases hs : s = x
  ·exact ⟨0, by rw [idxFrom, if_pos hs]; simp, by simp⟩
  ·have hl : x ∈ l := by
    rcases List.mem_cons.1 h with e | e
    ·exact absurd e.symm hs
    ·exact e
   obtain ⟨i, h1, h2⟩ := idxFrom_lt (k := k + 1) hl
   exact ⟨i + 1, by rw [idxFrom, if_neg hs, h1]; congr 1; omega, by simp; omega⟩
theorem askE_choice {sheet : List Qst} {key : ByteArray} (h : askE sheet key 0 = 0) : ∃ q, sheet.find? (isQ key) = some q ∧ q.kind = 2 := by
 unfold askE at h
 cases hq : sheet.find? (isQ key) with
 | none => rw [hq] at h; exact absurd h (by decide)
 | some q =>
  rw [hq] at h
  refine ⟨q, rfl, ?_⟩
  apply Classical.byContradiction
  intro hk
  simp only [if_true, if_neg hk] at h
  omega
end Go.Proofs.YthhmgblcccbdaaaGreatDoor

/- A row of noughts, made. -/
namespace Go.Proofs.YthhmgblcccbdaaaGreatDoor
open Go.RowKit

theorem made_ints (n : Nat) : (madeCells #[Value.int .i64 0] (n * 1)).toList = (List.replicate n (0 : Int)).map (Value.int .i64) := by
 rw [List.map_replicate, Nat.mul_one]
 apply List.ext_getElem?
 intro j
 by_cases hj : j < n
 ·simp [madeCells, hj, Nat.mod_one]
 ·simp [madeCells, hj]
theorem makeInts (w : World) (n : Nat) (hn : n ≤ 1000) : ∃ w', (Instr.makeSlice 22 (.int .i64 (n : Int)) (.int .i64 (n : Int))).run Tryz.prog w = .ok (.slice (some ⟨w.heap.size, 0, none⟩) n n) w' ∧ Acc RInt 1 3 (fun _ => False) w.heap.size w' (.slice (some ⟨w.heap.size, 0, none⟩) n n) (List.replicate n 0) ∧ All w w' := by
 have hi : (Tryz.prog.info? 3).map (fun i => (i.zero, i.size, i.bytes)) = some (some (.int .i64 0), 1, 8) := by kernel_rfl
 obtain ⟨i0, hi, hz0, hz1, hz2⟩ := info_parts hi
 obtain ⟨w', h1, h2, h3⟩ := run_make_full w w.heap.size 22 3 i0 (.int .i64 0) 1 Tryz.underlying22 hi hz0 hz1 .i64 .i64 n (by rw [hz2]; omega) (by unfold maxLen; omega) (Nat.le_refl _)
 refine ⟨w', h1, ?_, (Kept.refl _ _).grown h3 (fun k hk => nomatch hk)⟩
 apply Acc.ofIntCells
 rw [List.length_replicate, ← made_ints]
 exact h2
end Go.Proofs.YthhmgblcccbdaaaGreatDoor

/- Options. -/
namespace Go.Proofs.YthhmgblcccbdaaaGreatDoor
open Go.RowKit

noncomputable def optE (s : Set7) (xs : List Rev) (key p : ByteArray) (tm : Int) : Int := if askedE s xs key 0 ≠ 0 then askedE s xs key 0 else if (papOf s.papers p).isSome = false then 8 else if 0 ≤ tm ∧ tm < 5761440 then 0 else 1
def IntV (er : Int) (xs : List Int) (e : Ending) (w' : World) : Prop :=
 (er = 0 → ∃ (p : Option Addr) (c : Nat), e = .returned (.tuple #[.slice p xs.length c, .int .i64 0]) ∧ Sl RInt 1 (fun _ => True) w' p xs.length xs) ∧ (er ≠ 0 → e = .returned (.tuple #[.slice none 0 0, .int .i64 er]))
theorem IntV.bad {er : Int} {xs : List Int} {w' : World} (h : er ≠ 0) : IntV er xs (.returned (.tuple #[.slice none 0 0, .int .i64 er])) w' := ⟨fun h0 => absurd h0 h, fun _ => rfl⟩
theorem all_but {w w2 w3 : World} {ob : Nat} (h : All w w2) (hb : But ob w2 w3) (hle : w.heap.size ≤ ob) : All w w3 :=
 ⟨hb.os.trans h.os, hb.tape.trans h.tape, hb.output.trans h.output, Nat.le_trans h.size hb.size, fun q hq _ => (hb.block q (Nat.lt_of_lt_of_le hq h.size) (by omega)).trans (h.block q hq trivial)⟩
theorem optL_snoc {opts : List ByteArray} {key p : ByteArray} {zs : List Raw} {k : Nat} {z : Raw} (h : zs.take (k + 1) = zs.take k ++ [z]) : optL opts key p (zs.take (k + 1)) = optZ opts key p (optL opts key p (zs.take k)) z := by
 rw [h, optL, List.foldl_append, optL]; rfl
theorem optL_len (opts : List ByteArray) (key p : ByteArray) (zs : List Raw) : (optL opts key p zs).length = opts.length := by
 have h : ∀ (zs : List Raw) (l : List Int), (zs.foldl (optZ opts key p) l).length = l.length := by
  intro zs
  induction zs with
  | nil => intro l; rfl
  | cons z zs ih => intro l; rw [List.foldl_cons, ih, optZ_len]
 rw [optL, h, List.length_replicate]
theorem bump_bound {opts : List ByteArray} {l : List Int} {a : Ans4} {m : Int} (h : ∀ v ∈ l, 0 ≤ v ∧ v ≤ m) (hm : 0 ≤ m) : ∀ v ∈ bumpA opts l a, 0 ≤ v ∧ v ≤ m + 1 := by
 intro v hv
 rw [bumpA] at hv
 rcases List.mem_or_eq_of_mem_set hv with h1 | h1
 ·have := h v h1; omega
 ·have h2 : 0 ≤ l.getD (idxFrom a.option 0 opts).toNat 0 ∧ l.getD (idxFrom a.option 0 opts).toNat 0 ≤ m := by
   rw [List.getD_eq_getElem?_getD]
   cases hg : l[(idxFrom a.option 0 opts).toNat]? with
   | none => simp; omega
   | some u => simpa using h u (List.mem_of_getElem? hg)
  omega
theorem optZ_bound {opts : List ByteArray} {key p : ByteArray} {l : List Int} {z : Raw} {m : Int} (h : ∀ v ∈ l, 0 ≤ v ∧ v ≤ m) (hm : 0 ≤ m) : ∀ v ∈ optZ opts key p l z, 0 ≤ v ∧ v ≤ m + 1 := by
 intro v hv
 rw [optZ] at hv
 split at hv
 ·cases hf : z.1.answers.find? (isA key) with
  | none => rw [hf] at hv; have := h v hv; omega
  | some a => rw [hf] at hv; exact bump_bound h hm v hv
 ·have := h v hv; omega
theorem optL_bound (opts : List ByteArray) (key p : ByteArray) (zs : List Raw) : ∀ v ∈ optL opts key p zs, 0 ≤ v ∧ v ≤ (zs.length : Int) := by
 have h : ∀ (zs : List Raw) (l : List Int) (m : Int), 0 ≤ m → (∀ v ∈ l, 0 ≤ v ∧ v ≤ m) → ∀ v ∈ zs.foldl (optZ opts key p) l, 0 ≤ v ∧ v ≤ m + (zs.length : Int) := by
  intro zs
  induction zs with
  | nil => intro l m _ h v hv; simpa using h v hv
  | cons z zs ih =>
   intro l m hm h v hv
   rw [List.foldl_cons] at hv
   have := ih _ (m + 1) (by omega) (optZ_bound h hm) v hv
   rw [List.length_cons]
   omega
 intro v hv
 have := h zs (List.replicate opts.length 0) 0 (by omega) (by intro v hv; rw [List.mem_replicate] at hv; omega) v hv
 omega
end Go.Proofs.YthhmgblcccbdaaaGreatDoor

/- Options, walked. -/
namespace Go.Proofs.YthhmgblcccbdaaaGreatDoor
open Go.RowKit

theorem optE_1 {s : Set7} {xs : List Rev} {key p : ByteArray} {tm : Int} (h : askedE s xs key 0 ≠ 0) : optE s xs key p tm = askedE s xs key 0 := by rw [optE, if_pos h]
theorem optE_2 {s : Set7} {xs : List Rev} {key p : ByteArray} {tm : Int} (h : askedE s xs key 0 = 0) : optE s xs key p tm = if (papOf s.papers p).isSome = false then 8 else if 0 ≤ tm ∧ tm < 5761440 then 0 else 1 := by rw [optE, if_neg (fun e => e h)]
theorem askedE_zero {s : Set7} {xs : List Rev} {key : ByteArray} {m : Int} (h : askedE s xs key m = 0) : revsF s xs = 0 ∧ askE s.sheet key m = 0 := by
 unfold askedE at h
 by_cases h0 : revsF s xs ≠ 0
 ·rw [if_pos h0] at h; exact absurd h h0
 ·rw [if_neg h0] at h; exact ⟨Classical.not_not.1 h0, h⟩
theorem revsF_zero {s : Set7} {xs : List Rev} (h : revsF s xs = 0) : setupF s = 0 := by
 apply Classical.byContradiction
 intro hs
 rw [revsF_setup hs] at h
 exact hs h
theorem Acc.intAt {F : Nat → Prop} {B : Nat} {w : World} {T : TypeId} {zs : List Int} {g n cap : Nat} (h : Acc RInt 1 T F B w (.slice (some ⟨g, 0, none⟩) n cap) zs) {i : Nat} (hi : i < zs.length) : w.cell? ⟨g, i, none⟩ = some (.int .i64 (zs.getD i 0)) ∧ w.frozen? ⟨g, i, none⟩ = false := by
 obtain ⟨g', c', hv, -, h1, h2⟩ := h.ints (by omega)
 injection hv with hv _ _
 injection hv with hv
 injection hv with hv _ _
 subst hv
 exact ⟨h1 i hi, h2 i⟩
set_option maxRecDepth 100000 in
set_option maxHeartbeats 12800000 in
theorem options_any (a0 : Option Addr) (l0 c0 : Nat) (a1 : Option Addr) (l1 c1 : Nat) (a2 : Option Addr) (l2 c2 : Nat) (a3 : Option Addr) (l3 c3 : Nat) (a4 : Option Addr) (l4 c4 : Nat) (s : Set7) (al : Option Addr) (ll cl : Nat) (xs : List Rev) (ts : List Raw) (key p : ByteArray) (tm : Int) (w : World) (his : SetIs (fun _ => True) w a0 l0 a1 l1 a2 l2 a3 l3 a4 l4 s) (hsx : Sl RRev 7 (fun _ => True) w al ll xs) (hst : Sl RRaw 7 (fun _ => True) w al ll ts) (hts : ts.map (·.1) = xs) (hsm : ∀ z ∈ ts, RevSmall z.1) (hans : ∀ z ∈ ts, Sl RAns 4 (fun _ => True) w z.2.1 z.1.answers.length z.1.answers) (hl : ll ≤ 1000000) (hlc : ll ≤ cl) (hg : Glob w) :
  Calls Tryz.prog 33 #[.agg #[.slice a0 l0 c0, .slice a1 l1 c1, .slice a2 l2 c2, .slice a3 l3 c3, .slice a4 l4 c4, .int .i64 s.due, .int .i64 s.reply], .slice al ll cl, .string key, .string p, .int .i64 tm] w fun e w' => (∃ q : Qst, (optE s xs key p tm = 0 → s.sheet.find? (isQ key) = some q) ∧ IntV (optE s xs key p tm) (optL q.opts key p (doneL ts tm s.pairs)) e w') ∧ All w w' := by
 have hk1 : All w (w.alloc (.cells #[.slice a0 l0 c0, .slice a1 l1 c1, .slice a2 l2 c2, .slice a3 l3 c3, .slice a4 l4 c4, .int .i64 s.due, .int .i64 s.reply] 31)) := Kept.alloc _ _ _
 have hb := heap_at w (.cells #[.slice a0 l0 c0, .slice a1 l1 c1, .slice a2 l2 c2, .slice a3 l3 c3, .slice a4 l4 c4, .int .i64 s.due, .int .i64 s.reply] 31) _ rfl
 obtain ⟨bb, hbb⟩ : ∃ b, b = w.heap.size := ⟨_, rfl⟩
 have HBB := Lib.hid hbb
 rw [← hbb] at hb
 have HBL := Lib.hid (fun (wx : World) (k : All (w.alloc (.cells #[.slice a0 l0 c0, .slice a1 l1 c1, .slice a2 l2 c2, .slice a3 l3 c3, .slice a4 l4 c4, .int .i64 s.due, .int .i64 s.reply] 31)) wx) => k.heap hb trivial)
 have HAK := Lib.hid (asked2_any a0 l0 c0 a1 l1 c1 a2 l2 c2 a3 l3 c3 a4 l4 c4 s al ll cl xs key _ (his.keep hk1) (hsx.keep RRev.ok hk1) hl hlc (hg.keep hk1))
 have HBO := Lib.hid (fun (wx : World) (k : All (w.alloc (.cells #[.slice a0 l0 c0, .slice a1 l1 c1, .slice a2 l2 c2, .slice a3 l3 c3, .slice a4 l4 c4, .int .i64 s.due, .int .i64 s.reply] 31)) wx) => bookOf_any a0 l0 c0 a1 l1 c1 a2 l2 c2 a3 l3 c3 a4 l4 c4 s al ll cl ts wx (hst.keep RRaw.ok (hk1.trans k)) hl)
 have HIS := Lib.hid (fun (wx : World) (k : All (w.alloc (.cells #[.slice a0 l0 c0, .slice a1 l1 c1, .slice a2 l2 c2, .slice a3 l3 c3, .slice a4 l4 c4, .int .i64 s.due, .int .i64 s.reply] 31)) wx) => his.keep (hk1.trans k))
 have HAN := Lib.hid (fun (wx : World) (k : All (w.alloc (.cells #[.slice a0 l0 c0, .slice a1 l1 c1, .slice a2 l2 c2, .slice a3 l3 c3, .slice a4 l4 c4, .int .i64 s.due, .int .i64 s.reply] 31)) wx) (z : Raw) (hz : z ∈ ts) => (hans z hz).keep RAns.ok (hk1.trans k))
 have HTL : ts.length ≤ 1000000 := by have := hst.len; omega
 have HSM := Lib.hid hsm
 have HN2 := Lib.hid his.pairs.len
 have hn2 := his.n2
 have hn1 := his.n1
 have HALL := Lib.hid (fun (h : revsF s xs = 0) (z : Raw) (hz : z ∈ ts) => revsF_answers h z.1 (by rw [← hts]; exact List.mem_map_of_mem hz))
 obtain ⟨er, her⟩ : ∃ z, z = optE s xs key p tm := ⟨_, rfl⟩
 obtain ⟨ef, hef⟩ : ∃ z, z = askedE s xs key 0 := ⟨_, rfl⟩
 have HE1 := Lib.hid (fun (h : ef ≠ 0) => (show er = ef from by rw [her, optE_1 (by rw [← hef]; exact h), hef]))
 have HE2 := Lib.hid (fun (h : ef = 0) => (show er = if (papOf s.papers p).isSome = false then 8 else if 0 ≤ tm ∧ tm < 5761440 then 0 else 1 from by rw [her, optE_2 (hef.symm.trans h)]))
 have HAZ := Lib.hid (fun (h : ef = 0) => askedE_zero (hef.symm.trans h))
 rw [← her]
 rw [← hef] at HAK
 obtain ⟨zs, hzs⟩ : ∃ z, z = doneL ts tm s.pairs := ⟨_, rfl⟩
 have HZS := Lib.hid hzs
 have HZL := Lib.hid (show zs.length ≤ s.pairs.length from by rw [hzs]; exact doneL_len _ _ _)
 have HZM := Lib.hid (fun (z : Raw) (hz : z ∈ zs) => (show z ∈ ts from doneL_mem (by rw [hzs] at hz; exact hz)))
 rw [← hzs]
 have HK1 := Lib.hid hk1
 have e0 := cell_at (i := 0) hb rfl
 have e1 := cell_at (i := 1) hb rfl
 have e2 := cell_at (i := 2) hb rfl
 have e3 := cell_at (i := 3) hb rfl
 have e4 := cell_at (i := 4) hb rfl
 have e5 := cell_at (i := 5) hb rfl
 have e6 := cell_at (i := 6) hb rfl
 clear her hef hzs hbb hb his hsx hst hts hsm hans hg hk1
 go_enter Tryz.func33, Tryz.ntmps33
 go_upto_region 1 with fail
 simp only [← HBB.out]
 generalize w.alloc (.cells #[.slice a0 l0 c0, .slice a1 l1 c1, .slice a2 l2 c2, .slice a3 l3 c3, .slice a4 l4 c4, .int .i64 s.due, .int .i64 s.reply] 31) = w1 at *
 go_wp2_with fail
 refine HAK.out.mono ?_
 rintro e w2 ⟨hv, hw2⟩
 clear e0 e1 e2 e3 e4 e5 e6
 by_cases h0 : ef = 0
 case neg =>
  obtain rfl := hv.2 h0
  have hd : (ef != 0) = true := by simpa using h0
  have HF := Lib.hid (HE1.out h0)
  have H0 := Lib.hid h0
  have hwq := Lib.hid (hw2.then_alloc (.cells #[.string ⟨#[]⟩, .int .i64 0, .int .i64 0, .slice none 0 0, .bool false, .bool false] 95))
  clear h0 hv
  go_wp2_with fail
  go_ret2
  exact ⟨⟨⟨⟨#[]⟩, 0, 0, [], false, false⟩, fun h => absurd (HF.out.symm.trans h) H0.out, by rw [HF.out]; exact IntV.bad H0.out⟩, HK1.out.trans hwq.out⟩
 case pos =>
  obtain ⟨hrz, haz⟩ := HAZ.out h0
  have HRIS := Lib.hid (setupF_rises (revsF_zero hrz)).1
  have HA0 := Lib.hid (HALL.out hrz)
  have HFE := Lib.hid (HE2.out h0)
  obtain ⟨x, oa, oc, hfx, rfl, hoc, hxs, hso⟩ := hv.1 h0
  subst h0
  have HFX := Lib.hid hfx
  have HKIND := Lib.hid (show x.kind = 2 from by obtain ⟨q, h1, h2⟩ := askE_choice haz; rw [hfx] at h1; injection h1 with h1; rw [h1]; exact h2)
  have hno : x.opts.length ≤ 1000 := hxs.2
  have hd : ((0 : Int) != 0) = false := rfl
  rw [show qstC x oa oc = #[.string x.key, .int .i64 x.kind, .int .i64 x.most, .slice oa x.opts.length oc, .bool x.needed, .bool x.secret] from rfl]
  have hk3 : All w2 (w2.alloc (.cells #[.string x.key, .int .i64 x.kind, .int .i64 x.most, .slice oa x.opts.length oc, .bool x.needed, .bool x.secret] 95)) := Kept.alloc _ _ _
  have hq3 := heap_at w2 (.cells #[.string x.key, .int .i64 x.kind, .int .i64 x.most, .slice oa x.opts.length oc, .bool x.needed, .bool x.secret] 95) _ rfl
  obtain ⟨qb, hqb⟩ : ∃ b, b = w2.heap.size := ⟨_, rfl⟩
  have HQB := Lib.hid hqb
  rw [← hqb] at hq3
  have hw3 := hw2.trans hk3
  have hso3 := hso.keep RStr.ok hk3
  clear hrz haz hv hfx hxs hqb hk3 hso hoc hw2
  go_upto_region 2 with fail
  simp only [← HQB.out]
  generalize w2.alloc (.cells #[.string x.key, .int .i64 x.kind, .int .i64 x.most, .slice oa x.opts.length oc, .bool x.needed, .bool x.secret] 95) = w3 at *
  have HQX := Lib.hid (fun (wx : World) (k : All w3 wx) => k.heap hq3 trivial)
  have HSO := Lib.hid (fun (wx : World) (k : All w3 wx) => hso3.keep RStr.ok k)
  have hb3 := HBL.out _ hw3
  have e1 := cell_at (i := 1) hb3 rfl
  clear hb3 hq3 hso3
  go_wp2_with fail
  refine (paperOf_any a1 l1 c1 s.papers p _ (HIS.out _ hw3).papers hn1 HRIS.out).mono ?_
  rintro e w4 ⟨⟨v, rfl, hpv⟩, hw4⟩
  clear e1
  unfold PapVal at hpv
  have hw14 := hw3.trans hw4
  have HQ4 := Lib.hid hw4
  cases hpo : papOf s.papers p with
  | none =>
   rw [hpo] at hpv
   dsimp only at hpv
   subst hpv
   have HF := Lib.hid (show er = 8 from by rw [HFE.out, hpo]; rfl)
   have hwq := Lib.hid (hw14.then_alloc (.cells #[.string ⟨#[]⟩, .string ⟨#[]⟩, .string ⟨#[]⟩, .slice none 0 0, .slice none 0 0] 119))
   clear hpo
   go_wp2_with fail
   go_ret2
   exact ⟨⟨⟨⟨#[]⟩, 0, 0, [], false, false⟩, fun h => absurd (HF.out.symm.trans h) (by decide), by rw [HF.out]; exact IntV.bad (by decide)⟩, HK1.out.trans hwq.out⟩
  | some y =>
   rw [hpo] at hpv
   obtain ⟨pa, pc, ta, tc, rfl, -, -, -, -, -⟩ := hpv
   have HF1 := Lib.hid (show er = if 0 ≤ tm ∧ tm < 5761440 then 0 else 1 from by rw [HFE.out, hpo]; rfl)
   have hk5 : All w4 (w4.alloc (.cells #[.string y.id, .string y.track, .string y.title, .slice pa y.authors.length pc, .slice ta y.topics.length tc] 119)) := Kept.alloc _ _ _
   have hw5 := hw14.trans hk5
   have hq5 := hw4.trans hk5
   clear hpo hw14 hw4 hk5
   go_upto_region 5 with fail
   generalize w4.alloc (.cells #[.string y.id, .string y.track, .string y.title, .slice pa y.authors.length pc, .slice ta y.topics.length tc] 119) = w5 at *
   go_wp2_with fail
   refine (isMoment_any tm _).mono ?_
   rintro e w' ⟨rfl, rfl⟩
   by_cases hm : 0 ≤ tm ∧ tm < 5761440
   case neg =>
    rw [decide_eq_false hm]
    have HF := Lib.hid (show er = 1 from by rw [HF1.out, if_neg hm])
    clear hm
    go_wp2_with fail
    go_ret2
    exact ⟨⟨⟨⟨#[]⟩, 0, 0, [], false, false⟩, fun h => absurd (HF.out.symm.trans h) (by decide), by rw [HF.out]; exact IntV.bad (by decide)⟩, HK1.out.trans hw5⟩
   case pos =>
    rw [decide_eq_true hm]
    have HF := Lib.hid (show er = 0 from by rw [HF1.out, if_pos hm])
    have hqx := HQX.out _ hq5
    have d3 := cell_at (i := 3) hqx rfl
    obtain ⟨w6, hmk, hacc6, hk6⟩ := makeInts w5 x.opts.length hno
    obtain ⟨ob, hob⟩ : ∃ b, b = w5.heap.size := ⟨_, rfl⟩
    have HOB := Lib.hid hob
    rw [← hob] at hmk hacc6
    have hw6 := hw5.trans hk6
    have hq6 := hq5.trans hk6
    have hob1 : w1.heap.size ≤ ob := by have := hw5.size; omega
    have hob3 : w3.heap.size ≤ ob := by have := hq5.size; omega
    have hob6 : ob < w6.heap.size := (hacc6.lt ob rfl).2
    have hqbo : qb < ob := by have := (Array.getElem?_eq_some_iff.1 hqx).1; omega
    have hb6 := HBL.out _ hw6
    have e0 := cell_at (i := 0) hb6 rfl
    have e1 := cell_at (i := 1) hb6 rfl
    have e2 := cell_at (i := 2) hb6 rfl
    have e3 := cell_at (i := 3) hb6 rfl
    have e4 := cell_at (i := 4) hb6 rfl
    have e5 := cell_at (i := 5) hb6 rfl
    have e6 := cell_at (i := 6) hb6 rfl
    clear hm hqx hob hk6 hw5 hq5 hb6
    go_wp2_with fail
    refine (HBO.out _ hw6).mono ?_
    rintro e w7 ⟨⟨kb, rfl, hbk⟩, hw7⟩
    have hq7 := hw6.trans hw7
    have hp7 := hq6.trans hw7
    have HV := Lib.hid (bookValid_any a0 l0 c0 a1 l1 c1 a2 l2 c2 a3 l3 c3 a4 l4 c4 s kb ts HTL HSM.out tm w7 hbk (HIS.out _ hq7).pairs (by omega))
    rw [← HZS.out] at HV
    have hac7 := hacc6.keepAll RInt.ok hw7
    have hob7 : ob < w7.heap.size := Nat.lt_of_lt_of_le hob6 hw7.size
    clear e0 e1 e2 e3 e4 e5 e6 d3 hmk hbk hw7 hw6 hq6 hacc6 hob6
    go_wp2_with fail
    refine (HV.out).mono ?_
    rintro e w8 ⟨⟨v5, rfl, hacc⟩, hw8'⟩
    obtain ⟨vp, vc, rfl, hsv⟩ := hacc.sl RRaw.ok (by decide) (G := fun k => k ≠ ob) (fun _ h => h.elim) (fun k hk => by have := (hacc.lt k hk).1; omega)
    have hw8 := hq7.trans hw8'
    have hq8 := hp7.trans hw8'
    have hac8 := hac7.keepAll RInt.ok hw8'
    have HSV := Lib.hid (fun (wx : World) (k : But ob w8 wx) => hsv.keep RRaw.ok k)
    obtain ⟨nz, hnz⟩ : ∃ n, n = zs.length := ⟨_, rfl⟩
    have HNZ := Lib.hid hnz
    have hnz2 : nz ≤ 1000000 := by have := HZL.out; have := HN2.out; omega
    rw [← hnz] at HSV ⊢
    have HAC8 := Lib.hid hac8
    clear hacc hsv hnz hac7 hq7 hp7 hw8' hac8
    go_wp2_with fail
    go_loopw [53] (fun i wr => ∃ k : Nat, k ≤ nz ∧ i = .int .i64 k ∧ Acc RInt 1 3 (fun _ => False) ob wr (.slice (some ⟨ob, 0, none⟩) x.opts.length x.opts.length) (optL x.opts key p (zs.take k)) ∧ But ob w8 wr) (fun i _ => nz - (intOf i).toNat)
    case atStart => exact ⟨0, Nat.zero_le _, rfl, HAC8.out, Kept.refl _ _⟩
    case round =>
     obtain ⟨k, hk, rfl, hacc, hwr⟩ := hrel
     obtain ⟨wo, rfl⟩ : ∃ wo : World, wo = wr := ⟨_, rfl⟩
     by_cases hlt : k < nz
     ·obtain ⟨b, off, z, ha, -, r0, r1, r2, r3, r4, r5, r6, hzsm, hzk, htk⟩ := (HSV.out _ hwr).atRaw hlt
      subst ha
      have HY := Lib.hid (optL_snoc (opts := x.opts) (key := key) (p := p) htk)
      have hzt := HZM.out z (List.mem_of_getElem? hzk)
      have hal : z.1.answers.length ≤ 1000000 := Nat.le_trans hzsm.2.2.2 (by decide)
      have HLN := Lib.hid (optL_len x.opts key p (zs.take k))
      have HBD := Lib.hid (optL_bound x.opts key p (zs.take k))
      obtain ⟨os, hos⟩ : ∃ z, z = optL x.opts key p (zs.take k) := ⟨_, rfl⟩
      rw [← hos] at HY HLN HBD hacc
      have hko : All wo (wo.alloc (.cells #[.int .i64 z.1.no, .int .i64 z.1.tm, .string z.1.paper, .string z.1.person, .string z.1.by_, .bool z.1.done, .slice z.2.1 z.1.answers.length z.2.2] 45)) := Kept.alloc _ _ _
      have hblk := heap_at wo (.cells #[.int .i64 z.1.no, .int .i64 z.1.tm, .string z.1.paper, .string z.1.person, .string z.1.by_, .bool z.1.done, .slice z.2.1 z.1.answers.length z.2.2] 45) _ rfl
      obtain ⟨rb, hrb⟩ : ∃ q, q = wo.heap.size := ⟨_, rfl⟩
      have HRB := Lib.hid hrb
      rw [← hrb] at hblk
      have hac1 := hacc.keepAll RInt.ok hko
      have hwl := hwr.trans hko.all
      have hwa := all_but hw8 hwl hob1
      have hqa := all_but hq8 hwl hob3
      clear htk hacc hwr hko hrb hzsm hzk hos
      go_upto_region 13 with fail
      simp only [← HRB.out]
      generalize wo.alloc (.cells #[.int .i64 z.1.no, .int .i64 z.1.tm, .string z.1.paper, .string z.1.person, .string z.1.by_, .bool z.1.done, .slice z.2.1 z.1.answers.length z.2.2] 45) = wa at *
      clear r0 r1 r2 r3 r4 r5 r6
      have HRX := Lib.hid (fun (wx : World) (k : All wa wx) => k.heap hblk trivial)
      have u6 := cell_at (i := 6) hblk rfl
      have HAT := Lib.hid (answerTo_any z.2.1 z.1.answers.length z.2.2 z.1.answers key wa (HAN.out _ hwa z hzt) hal)
      have HAZ0 := Lib.hid (HA0.out z hzt)
      clear hblk hzt
      go_wp2_with fail
      refine (HAT.out).mono ?_
      rintro e w10 ⟨rfl, hw10⟩
      obtain ⟨g, hg⟩ : ∃ g, g = getA z.1.answers key := ⟨_, rfl⟩
      have HG := Lib.hid hg
      rw [← hg]
      obtain ⟨o, ho⟩ : ∃ o, o = z.1.answers.find? (isA key) := ⟨_, rfl⟩
      have HO := Lib.hid ho
      rw [← ho]
      have hk4 : All w10 (w10.alloc (.cells #[.string g.question, .int .i64 g.number, .string g.option, .string g.words] 97)) := Kept.alloc _ _ _
      have hs4 := heap_at w10 (.cells #[.string g.question, .int .i64 g.number, .string g.option, .string g.words] 97) _ rfl
      obtain ⟨ab, hab⟩ : ∃ q, q = w10.heap.size := ⟨_, rfl⟩
      have HAB := Lib.hid hab
      rw [← hab] at hs4
      have hab4 := hw10.trans hk4
      have hac4 := hac1.keepAll RInt.ok hab4
      have hwq := hwl.trans hab4.all
      have hqb := hqa.trans hab4
      have hr4 := HRX.out _ hab4
      clear hg ho hab u6 hw10 hk4 hac1 hwl hwa hqa hab4
      go_upto_region 14 with fail
      simp only [← HAB.out]
      generalize w10.alloc (.cells #[.string g.question, .int .i64 g.number, .string g.option, .string g.words] 97) = wb at *
      have u2 := cell_at (i := 2) hr4 rfl
      have s2 := cell_at (i := 2) hs4 rfl
      clear hr4 hs4
      cases o with
      | none =>
       have HY2 := Lib.hid (show optL x.opts key p (zs.take (k + 1)) = os from by rw [HY.out, optZ, ← HO.out]; split <;> rfl)
       have hfin := Lib.hid hac4
       clear hac4 s2 u2
       go_wp2_with fail
       go_roundw
       case rel => exact ⟨k + 1, by omega, by go_num, by rw [HY2.out]; exact hfin.out, hwq⟩
       case measure => simp [intOf]; omega
      | some a =>
       have HGA := Lib.hid (show g = a from by rw [HG.out, getA, ← HO.out]; rfl)
       by_cases hp : z.1.paper = p
       case neg =>
        have hd8 : (z.1.paper.toList == p.toList) = false := bytes_ne hp
        have HY2 := Lib.hid (show optL x.opts key p (zs.take (k + 1)) = os from by rw [HY.out, optZ, if_neg hp])
        have hfin := Lib.hid hac4
        clear hac4 s2 hp
        go_wp2_with fail
        go_roundw
        case rel => exact ⟨k + 1, by omega, by go_num, by rw [HY2.out]; exact hfin.out, hwq⟩
        case measure => simp [intOf]; omega
       case pos =>
        have hd8 : (z.1.paper.toList == p.toList) = true := by rw [hp]; simp
        have hmem : a ∈ z.1.answers ∧ a.question = key := ⟨List.mem_of_find?_eq_some HO.out.symm, of_decide_eq_true (show decide (a.question = key) = true from List.find?_some (p := isA key) HO.out.symm)⟩
        obtain ⟨ix, hix, hixl⟩ := idxFrom_lt (k := 0) (option_mem HAZ0.out hmem.1 hmem.2 HFX.out HKIND.out)
        rw [Nat.zero_add, ← HGA.out] at hix
        have HIX := Lib.hid hix
        have HY2 := Lib.hid (show optL x.opts key p (zs.take (k + 1)) = os.set ix (os.getD ix 0 + 1) from by rw [HY.out, optZ, if_pos hp, ← HO.out, ← HGA.out]; show bumpA x.opts os g = _; rw [bumpA, HIX.out]; rfl)
        have hixs : ix < os.length := by have := HLN.out; omega
        obtain ⟨hci, hfi⟩ := hac4.intAt hixs
        have hvb := HBD.out (os.getD ix 0) (by rw [List.getD_eq_getElem?_getD, List.getElem?_eq_getElem hixs]; exact List.getElem_mem _)
        have hvk : (zs.take k).length ≤ k := List.length_take_le _ _
        obtain ⟨v, hv⟩ : ∃ v, v = os.getD ix 0 := ⟨_, rfl⟩
        rw [← hv] at hci hvb HY2
        have hv0 : 0 ≤ v := hvb.1
        have hv1 : v ≤ 1000000 := by have := hvb.2; omega
        have hset := Lib.hid (hac4.setInt ix (v + 1))
        have hwn := Lib.hid (hwq.then_setCell ⟨ob, ix, none⟩ (.int .i64 (v + 1)) (by simp))
        have HSI := Lib.hid (index_any oa x.opts.length oc x.opts g.option wb (HSO.out _ hqb) (by omega))
        have hqx := HQX.out _ hqb
        have d3 := cell_at (i := 3) hqx rfl
        clear hac4 hp hmem hix hvb hvk hv hqx hqb hwq hixs
        go_upto_region 15 with fail
        go_wp2_with fail
        refine (HSI.out).mono ?_
        rintro e w' ⟨rfl, rfl⟩
        rw [HIX.out]
        go_wp2_with fail
        go_roundw
        case rel => exact ⟨k + 1, by omega, by go_num, by rw [HY2.out]; exact hset.out, hwn.out⟩
        case measure => simp [intOf]; omega
     ·have hdk : decide ((k : Int) < (nz : Int)) = false := by simp; omega
      have HE3 := Lib.hid (show zs.take k = zs from List.take_of_length_le (by have := HNZ.out; omega))
      rw [HE3.out] at hacc
      have hsl := hacc.sl RInt.ok (by decide) (G := fun _ => True) (fun _ h => h.elim) (fun _ _ => trivial)
      have HOL := Lib.hid (optL_len x.opts key p zs)
      have HSL := Lib.hid hsl
      have hwf := Lib.hid (HK1.out.trans (all_but hw8 hwr hob1))
      clear hacc hsl hwr
      go_wp2_with fail
      go_ret2
      refine ⟨⟨x, fun _ => HFX.out, ?_⟩, hwf.out⟩
      rw [HF.out]
      refine ⟨fun _ => ?_, fun h => absurd rfl h⟩
      obtain ⟨pa, pc, hv, hs⟩ := HSL.out
      injection hv with h1 h2 h3
      subst h1 h3
      exact ⟨some ⟨ob, 0, none⟩, x.opts.length, by rw [HOL.out]; rfl, hs⟩
end Go.Proofs.YthhmgblcccbdaaaGreatDoor

/- OptionsOf, walked. -/
namespace Go.Proofs.YthhmgblcccbdaaaGreatDoor
open Go.RowKit

theorem optR_snoc {opts : List ByteArray} {ts : List Raw} {tm : Int} {key p : ByteArray} {ps : List Pair2} {k : Nat} {y : Pair2} (h : ps.take (k + 1) = ps.take k ++ [y]) : optR opts ts tm key p (ps.take (k + 1)) = optP opts ts tm key p (optR opts ts tm key p (ps.take k)) y := by
 rw [h, optR, List.foldl_append, optR]; rfl
theorem optY_snoc {opts : List ByteArray} {key p r : ByteArray} {l : List Int} {ls : List Ans4} {k : Nat} {g : Ans4} (h : ls.take (k + 1) = ls.take k ++ [g]) : optY opts key p r l (ls.take (k + 1)) = if r = p ∧ g.question = key then bumpA opts (optY opts key p r l (ls.take k)) g else optY opts key p r l (ls.take k) := by
 unfold optY
 by_cases h1 : r = p
 ·rw [if_pos h1, if_pos h1, h, List.filter_append, List.foldl_append]
  by_cases h2 : g.question = key
  ·rw [if_pos ⟨h1, h2⟩]; simp [isA, h2]
  ·rw [if_neg (fun e => h2 e.2)]; simp [isA, h2]
 ·rw [if_neg h1, if_neg h1, if_neg (fun e => h1 e.1)]
theorem optY_len (opts : List ByteArray) (key p r : ByteArray) (l : List Int) (ls : List Ans4) : (optY opts key p r l ls).length = l.length := by
 unfold optY
 split
 ·exact bumps_len _ _ _
 ·rfl
theorem optR_len (opts : List ByteArray) (ts : List Raw) (tm : Int) (key p : ByteArray) (ps : List Pair2) : (optR opts ts tm key p ps).length = opts.length := by
 have h : ∀ (ps : List Pair2) (l : List Int), (ps.foldl (optP opts ts tm key p) l).length = l.length := by
  intro ps
  induction ps with
  | nil => intro l; rfl
  | cons y ps ih => intro l; rw [List.foldl_cons, ih, optP, optY_len]
 rw [optR, h, List.length_replicate]
theorem bumps_bound {opts : List ByteArray} : ∀ (ls : List Ans4) (l : List Int) (m : Int), 0 ≤ m → (∀ v ∈ l, 0 ≤ v ∧ v ≤ m) → ∀ v ∈ ls.foldl (bumpA opts) l, 0 ≤ v ∧ v ≤ m + (ls.length : Int)
 | [], l, m, _, h => fun v hv => by have := h v hv; simp; omega
 | a :: ls, l, m, hm, h => fun v hv => by
  rw [List.foldl_cons] at hv
  have := bumps_bound ls _ (m + 1) (by omega) (bump_bound h hm) v hv
  rw [List.length_cons]; omega
theorem optY_bound {opts : List ByteArray} {key p r : ByteArray} {l : List Int} {ls : List Ans4} {m : Int} (hm : 0 ≤ m) (h : ∀ v ∈ l, 0 ≤ v ∧ v ≤ m) : ∀ v ∈ optY opts key p r l ls, 0 ≤ v ∧ v ≤ m + (ls.length : Int) := by
 intro v hv
 unfold optY at hv
 split at hv
 ·have h1 := bumps_bound _ l m hm h v hv
  have h2 := List.length_filter_le (isA key) ls
  omega
 ·have := h v hv; omega
theorem optR_bound {ts : List Raw} (opts : List ByteArray) (tm : Int) (key p : ByteArray) (hsm : ∀ z ∈ ts, RevSmall z.1) (ps : List Pair2) : ∀ v ∈ optR opts ts tm key p ps, 0 ≤ v ∧ v ≤ 1000 * (ps.length : Int) := by
 have hx : ∀ y : Pair2, (((lastO ts (y.paper, y.person) tm true).getD raw0).1.answers).length ≤ 1000 := by
  intro y
  cases ho : lastO ts (y.paper, y.person) tm true with
  | none => exact Nat.zero_le _
  | some z => exact (hsm z (lastO_mem ho)).2.2.2
 have h : ∀ (ps : List Pair2) (l : List Int) (m : Int), 0 ≤ m → (∀ v ∈ l, 0 ≤ v ∧ v ≤ m) → ∀ v ∈ ps.foldl (optP opts ts tm key p) l, 0 ≤ v ∧ v ≤ m + 1000 * (ps.length : Int) := by
  intro ps
  induction ps with
  | nil => intro l m _ h v hv; have := h v hv; simp; omega
  | cons y ps ih =>
   intro l m hm h v hv
   rw [List.foldl_cons] at hv
   have h1 := hx y
   have := ih _ (m + 1000) (by omega) (fun v hv => by
    have h2 := optY_bound hm h v hv
    omega) v hv
   rw [List.length_cons]
   omega
 intro v hv
 have := h ps (List.replicate opts.length 0) 0 (by omega) (by intro v hv; rw [List.mem_replicate] at hv; omega) v hv
 omega
theorem optY_nil (opts : List ByteArray) (key p r : ByteArray) (l : List Int) : optY opts key p r l [] = l := by unfold optY; split <;> rfl
set_option maxRecDepth 100000 in
set_option maxHeartbeats 12800000 in
theorem optionsOf_any (a0 : Option Addr) (l0 c0 : Nat) (a1 : Option Addr) (l1 c1 : Nat) (a2 : Option Addr) (l2 c2 : Nat) (a3 : Option Addr) (l3 c3 : Nat) (a4 : Option Addr) (l4 c4 : Nat) (s : Set7) (al : Option Addr) (ll cl : Nat) (ts : List Raw) (key p : ByteArray) (tm : Int) (x : Qst) (w : World) (his : SetIs (fun _ => True) w a0 l0 a1 l1 a2 l2 a3 l3 a4 l4 s) (hst : Sl RRaw 7 (fun _ => True) w al ll ts) (hsm : ∀ z ∈ ts, RevSmall z.1) (hans : ∀ z ∈ ts, Sl RAns 4 (fun _ => True) w z.2.1 z.1.answers.length z.1.answers) (hall : ∀ z ∈ ts, answersF s.sheet z.1.answers = 0) (hl : ll ≤ 1000000) (hfx : s.sheet.find? (isQ key) = some x) (hkd : x.kind = 2) :
  Calls Tryz.prog 41 #[.agg #[.slice a0 l0 c0, .slice a1 l1 c1, .slice a2 l2 c2, .slice a3 l3 c3, .slice a4 l4 c4, .int .i64 s.due, .int .i64 s.reply], .slice al ll cl, .string key, .string p, .int .i64 tm] w fun e w' => (∃ (pa : Option Addr) (pc : Nat), e = .returned (.slice pa (optL x.opts key p (doneL ts tm s.pairs)).length pc) ∧ Sl RInt 1 (fun _ => True) w' pa (optL x.opts key p (doneL ts tm s.pairs)).length (optL x.opts key p (doneL ts tm s.pairs))) ∧ All w w' := by
 have hk1 : All w (w.alloc (.cells #[.slice a0 l0 c0, .slice a1 l1 c1, .slice a2 l2 c2, .slice a3 l3 c3, .slice a4 l4 c4, .int .i64 s.due, .int .i64 s.reply] 31)) := Kept.alloc _ _ _
 have hb := heap_at w (.cells #[.slice a0 l0 c0, .slice a1 l1 c1, .slice a2 l2 c2, .slice a3 l3 c3, .slice a4 l4 c4, .int .i64 s.due, .int .i64 s.reply] 31) _ rfl
 obtain ⟨bb, hbb⟩ : ∃ b, b = w.heap.size := ⟨_, rfl⟩
 have HBB := Lib.hid hbb
 rw [← hbb] at hb
 have HPS := Lib.hid (fun (wx : World) (k : All (w.alloc (.cells #[.slice a0 l0 c0, .slice a1 l1 c1, .slice a2 l2 c2, .slice a3 l3 c3, .slice a4 l4 c4, .int .i64 s.due, .int .i64 s.reply] 31)) wx) => his.pairs.keep RPair.ok (hk1.trans k))
 have HST := Lib.hid (fun (wx : World) (k : All (w.alloc (.cells #[.slice a0 l0 c0, .slice a1 l1 c1, .slice a2 l2 c2, .slice a3 l3 c3, .slice a4 l4 c4, .int .i64 s.due, .int .i64 s.reply] 31)) wx) => hst.keep RRaw.ok (hk1.trans k))
 have HAN := Lib.hid (fun (wx : World) (k : All (w.alloc (.cells #[.slice a0 l0 c0, .slice a1 l1 c1, .slice a2 l2 c2, .slice a3 l3 c3, .slice a4 l4 c4, .int .i64 s.due, .int .i64 s.reply] 31)) wx) (z : Raw) (hz : z ∈ ts) => (hans z hz).keep RAns.ok (hk1.trans k))
 have HSM := Lib.hid hsm
 have HPL := Lib.hid his.pairs.len
 have hn2 := his.n2
 have hn0 := his.n0
 have HRE := Lib.hid (show optL x.opts key p (doneL ts tm s.pairs) = optR x.opts ts tm key p s.pairs from (optR_eq tm key p hall _).symm)
 rw [HRE.out]
 have HBN := Lib.hid (fun ps => optR_bound x.opts tm key p hsm ps)
 have HOM := Lib.hid (fun (z : Raw) (hz : z ∈ ts) (g : Ans4) (hg : g ∈ z.1.answers) (hk : g.question = key) => option_mem (hall z hz) hg hk hfx hkd)
 rcases findG_find (p := isQ key) (xs := s.sheet) (k := 0) with ⟨h1, h2⟩ | ⟨i, q, h1, h2, h3⟩
 ·rw [h1] at hfx; exact nomatch hfx
 rw [hfx] at h1
 obtain rfl := Option.some.inj h1
 have hil : i < l0 := by
  have := (List.getElem?_eq_some_iff.1 h3).1
  have := his.sheet.len
  omega
 rw [Nat.zero_add] at h2
 obtain ⟨b, off, x', oa, oc, ha, -, -, -, -, q3, -, -, -, hxs, hso, hx, -⟩ := (his.keep hk1).sheet.atQst hil
 have hxq : x' = x := by rw [h3] at hx; injection hx with hx; exact hx.symm
 subst hxq
 have hno : x'.opts.length ≤ 1000 := hxs.2
 have HQA := Lib.hid (fun (wx : World) (k : All (w.alloc (.cells #[.slice a0 l0 c0, .slice a1 l1 c1, .slice a2 l2 c2, .slice a3 l3 c3, .slice a4 l4 c4, .int .i64 s.due, .int .i64 s.reply] 31)) wx) => (by have h := questionAt_any a0 l0 c0 s.sheet key wx (his.keep (hk1.trans k)).sheet (by omega); rw [h2] at h; exact h : Calls Tryz.prog 74 #[.slice a0 l0 c0, .string key] wx fun e w' => e = .returned (.int .i64 (i : Int)) ∧ All wx w'))
 have HK1 := Lib.hid hk1
 have e0 := cell_at (i := 0) hb rfl
 have HB2 := Lib.hid (fun (wx : World) (k : All (w.alloc (.cells #[.slice a0 l0 c0, .slice a1 l1 c1, .slice a2 l2 c2, .slice a3 l3 c3, .slice a4 l4 c4, .int .i64 s.due, .int .i64 s.reply] 31)) wx) => cell_at (i := 2) (k.heap hb trivial) rfl)
 subst ha
 clear hbb hb his hst hsm hans hall hk1 hfx hkd h1 h2 h3 hx hxs
 go_enter Tryz.func41, Tryz.ntmps41
 go_upto_region 1 with fail
 simp only [← HBB.out]
 generalize w.alloc (.cells #[.slice (some ⟨b, off, none⟩) l0 c0, .slice a1 l1 c1, .slice a2 l2 c2, .slice a3 l3 c3, .slice a4 l4 c4, .int .i64 s.due, .int .i64 s.reply] 31) = w1 at *
 go_region_held3 (fun w' => w'.cell? ⟨bb, 0, none⟩ = some (.slice (some ⟨b, off, none⟩) l0 c0) ∧ w'.cell? ⟨b, off + i * 6 + 3, none⟩ = some (.slice oa x'.opts.length oc)) (first | go_keep | exact ⟨by assumption, by assumption⟩) (first | (go_at_call 74; refine (HQA.out _ (by repeat (first | exact Kept.refl _ _ | refine Kept.then_drew ?_ | refine Kept.then_drewN ?_ _ | refine Kept.then_alloc ?_ _))).mono ?_; rintro e wq ⟨rfl, hq⟩; have hp1 : All w1 wq := Kept.trans (by repeat (first | exact Kept.refl _ _ | refine Kept.then_drew ?_ | refine Kept.then_drewN ?_ _ | refine Kept.then_alloc ?_ _)) hq; have a0 := hp1.cell e0 trivial; have a1 := hp1.cell q3 trivial))
 have hs2 := hso.keep RStr.ok hp1
 have HSO := Lib.hid (fun (wx : World) (k : All wq wx) => hs2.keep RStr.ok k)
 obtain ⟨w3, hmk, hacc3, hk3⟩ := makeInts wq x'.opts.length hno
 obtain ⟨ob, hob⟩ : ∃ b, b = wq.heap.size := ⟨_, rfl⟩
 have hob1 : w1.heap.size ≤ ob := by have := hp1.size; omega
 have hobq : wq.heap.size ≤ ob := by omega
 rw [← hob] at hmk hacc3
 have hw3 := hp1.trans hk3
 have e2 := HB2.out _ hw3
 have HAC3 := Lib.hid hacc3
 have HQ3 := Lib.hid hk3
 clear hob hacc3 hs2 hso hq a0 a1 e0 q3 hk3
 go_wp2_with fail
 clear e2
 go_loopw [34] (fun i wr => ∃ k : Nat, k ≤ l2 ∧ i = .int .i64 k ∧ Acc RInt 1 3 (fun _ => False) ob wr (.slice (some ⟨ob, 0, none⟩) x'.opts.length x'.opts.length) (optR x'.opts ts tm key p (s.pairs.take k)) ∧ But ob w3 wr) (fun i _ => l2 - (intOf i).toNat)
 case atStart => exact ⟨0, Nat.zero_le _, rfl, HAC3.out, Kept.refl _ _⟩
 case round =>
  obtain ⟨k, hk, rfl, hacc, hwr⟩ := hrel
  obtain ⟨wo, rfl⟩ : ∃ wo : World, wo = wr := ⟨_, rfl⟩
  have hwo := all_but hw3 hwr hob1
  by_cases hlt : k < l2
  ·obtain ⟨b2, off2, y, ha, -, c0, c1, -, -, htk⟩ := (HPS.out wo hwo).atPair hlt
   subst ha
   have HY := Lib.hid (optR_snoc (opts := x'.opts) (ts := ts) (tm := tm) (key := key) (p := p) htk)
   have HLN := Lib.hid (optR_len x'.opts ts tm key p (s.pairs.take k))
   have HBD := Lib.hid (HBN.out (s.pairs.take k))
   have hkl : (s.pairs.take k).length ≤ k := List.length_take_le _ _
   obtain ⟨os, hos⟩ : ∃ z, z = optR x'.opts ts tm key p (s.pairs.take k) := ⟨_, rfl⟩
   rw [← hos] at HY HLN HBD hacc
   have hko : All wo (wo.alloc (.cells #[.string y.paper, .string y.person] 38)) := Kept.alloc _ _ _
   have hblk := heap_at wo (.cells #[.string y.paper, .string y.person] 38) _ rfl
   obtain ⟨yb, hyb⟩ : ∃ q, q = wo.heap.size := ⟨_, rfl⟩
   have HYB := Lib.hid hyb
   rw [← hyb] at hblk
   have hac1 := hacc.keepAll RInt.ok hko
   have hyo : yb ≠ ob := by have := (hacc.lt ob rfl).2; omega
   have hwl := hwr.trans hko.all
   have hwa := hwo.trans hko
   clear htk hyb hacc hwr hko hos hwo
   go_upto_region 6 with fail
   simp only [← HYB.out]
   generalize wo.alloc (.cells #[.string y.paper, .string y.person] 38) = wa at *
   clear c0 c1
   obtain ⟨o, ho⟩ : ∃ z, z = lastO ts (y.paper, y.person) tm true := ⟨_, rfl⟩
   have HO := Lib.hid ho
   have HVA := Lib.hid (valid_any al ll cl ts (y.paper, y.person) tm wa (HST.out _ hwa) hl)
   rw [← ho] at HVA
   clear ho
   have HYX := Lib.hid (fun (wx : World) (k : But ob wa wx) => k.heap hblk hyo)
   have q0 := cell_at (i := 0) hblk rfl
   have q1 := cell_at (i := 1) hblk rfl
   clear hblk
   go_wp2_with fail
   refine (HVA.out).mono ?_
   rintro e w4 ⟨rfl, hw4⟩
   clear q0 q1
   obtain ⟨⟨x, aa, ac⟩, hx⟩ : ∃ z, z = o.getD raw0 := ⟨_, rfl⟩
   have HP := Lib.hid (show optP x'.opts ts tm key p os y = optY x'.opts key p y.paper os x.answers from by rw [optP, ← HO.out, ← hx])
   have hxa : (∀ wx, All w1 wx → Sl RAns 4 (fun _ => True) wx aa x.answers.length x.answers) ∧ x.answers.length ≤ 1000 ∧ (∀ g ∈ x.answers, g.question = key → g.option ∈ x'.opts) := by
    cases hoo : o with
    | none =>
     rw [hoo] at hx
     have e1 : (x, aa, ac) = raw0 := hx
     injection e1 with e1 e2
     injection e2 with e2 e3
     rw [e1, e2]
     exact ⟨fun _ _ => Sl.nil _ _ _ _ _, by decide, fun g hg => nomatch hg⟩
    | some z =>
     rw [hoo] at hx
     have e1 : (x, aa, ac) = z := hx
     have hmem := lastO_mem (HO.out.symm.trans hoo)
     rw [← e1] at hmem
     exact ⟨fun wx kx => HAN.out wx kx _ hmem, (HSM.out _ hmem).2.2.2, fun g hg hk => HOM.out _ hmem g hg hk⟩
   obtain ⟨hxs, hxl, hxo⟩ := hxa
   have HXS := Lib.hid hxs
   have HXO := Lib.hid hxo
   rw [← hx]
   rw [show (encRaw (x, aa, ac)).toArray = revC x aa ac from rfl]
   have hk4 : All w4 (w4.alloc (.cells (revC x aa ac) 45)) := Kept.alloc _ _ _
   have hr4 := heap_at w4 (.cells (revC x aa ac) 45) _ rfl
   obtain ⟨rb, hrb⟩ : ∃ q, q = w4.heap.size := ⟨_, rfl⟩
   have HRB := Lib.hid hrb
   rw [← hrb] at hr4
   have hyk := hw4.trans hk4
   have HAC5 := Lib.hid (hac1.keepAll RInt.ok hyk)
   have hl5 := hwl.trans hyk.all
   have HY5 := Lib.hid (fun (wx : World) (k : But ob (w4.alloc (.cells (revC x aa ac) 45)) wx) => HYX.out wx (hyk.all.trans k))
   clear hx hrb hac1 hwa hw4 hk4 hxs hxo hwl hyk
   go_upto_region 7 with fail
   simp only [← HRB.out]
   generalize w4.alloc (.cells (revC x aa ac) 45) = w5 at *
   have u6 : w5.cell? ⟨rb, 6, none⟩ = some (.slice aa x.answers.length ac) := cell_at (i := 6) hr4 rfl
   obtain ⟨na, hna⟩ : ∃ n, n = x.answers.length := ⟨_, rfl⟩
   have HNA := Lib.hid hna
   rw [← hna] at hxl HXS u6
   clear hr4 hna
   go_wp2_with fail
   clear u6
   go_loopw [48] (fun i wr => ∃ q : Nat, q ≤ na ∧ i = .int .i64 q ∧ Acc RInt 1 3 (fun _ => False) ob wr (.slice (some ⟨ob, 0, none⟩) x'.opts.length x'.opts.length) (optY x'.opts key p y.paper os (x.answers.take q)) ∧ But ob w5 wr) (fun i _ => na - (intOf i).toNat)
   case atStart => exact ⟨0, Nat.zero_le _, rfl, by rw [List.take_zero, optY_nil]; exact HAC5.out, Kept.refl _ _⟩
   case round =>
    obtain ⟨q, hq, rfl, hacc, hwr⟩ := hrel
    obtain ⟨wp, rfl⟩ : ∃ wp : World, wp = wr := ⟨_, rfl⟩
    have hlp := hl5.trans hwr
    by_cases hlt2 : q < na
    ·obtain ⟨b3, off3, g, ha, -, r0, r1, r2, r3, -, hgk, htk⟩ := (HXS.out _ (all_but hw3 hlp hob1)).atAns hlt2
     subst ha
     have HM := Lib.hid (optY_snoc (opts := x'.opts) (key := key) (p := p) (r := y.paper) (l := os) htk)
     have HGM := Lib.hid (List.mem_of_getElem? hgk)
     have HML := Lib.hid (optY_len x'.opts key p y.paper os (x.answers.take q))
     have HMB := Lib.hid (optY_bound (opts := x'.opts) (key := key) (p := p) (r := y.paper) (ls := x.answers.take q) (by omega) HBD.out)
     have hql : (x.answers.take q).length ≤ q := List.length_take_le _ _
     obtain ⟨my, hmy⟩ : ∃ m, m = optY x'.opts key p y.paper os (x.answers.take q) := ⟨_, rfl⟩
     rw [← hmy] at hacc HM HML HMB
     have hko : All wp (wp.alloc (.cells #[.string g.question, .int .i64 g.number, .string g.option, .string g.words] 97)) := Kept.alloc _ _ _
     have hs9 := heap_at wp (.cells #[.string g.question, .int .i64 g.number, .string g.option, .string g.words] 97) _ rfl
     obtain ⟨gb, hgb⟩ : ∃ q, q = wp.heap.size := ⟨_, rfl⟩
     have HGB := Lib.hid hgb
     rw [← hgb] at hs9
     have hac9 := hacc.keepAll RInt.ok hko
     have hwn := hwr.trans hko.all
     have hln := hlp.trans hko.all
     clear htk hgk hmy hacc hwr hlp hko hgb
     go_upto_region 10 with fail
     simp only [← HGB.out]
     generalize wp.alloc (.cells #[.string g.question, .int .i64 g.number, .string g.option, .string g.words] 97) = wn at *
     clear r0 r1 r2 r3
     have hy9 := HY5.out _ hwn
     have q0 := cell_at (i := 0) hy9 rfl
     have v0 := cell_at (i := 0) hs9 rfl
     have v2 := cell_at (i := 2) hs9 rfl
     clear hs9 hy9
     by_cases hpp : y.paper = p
     case neg =>
      have hd : (y.paper.toList == p.toList) = false := bytes_ne hpp
      have HM2 := Lib.hid (show optY x'.opts key p y.paper os (x.answers.take (q + 1)) = my from by rw [HM.out, if_neg (fun e => hpp e.1)])
      have hfin := Lib.hid hac9
      clear hpp hac9 v2
      go_wp2_with fail
      go_roundw
      case rel => exact ⟨q + 1, by omega, by go_num, by rw [HM2.out]; exact hfin.out, hwn⟩
      case measure => simp [intOf]; omega
     case pos =>
      have hd : (y.paper.toList == p.toList) = true := by rw [hpp]; simp
      by_cases hkq : g.question = key
      case neg =>
       have hd2 : (g.question.toList == key.toList) = false := bytes_ne hkq
       have HM2 := Lib.hid (show optY x'.opts key p y.paper os (x.answers.take (q + 1)) = my from by rw [HM.out, if_neg (fun e => hkq e.2)])
       have hfin := Lib.hid hac9
       clear hpp hkq hac9 v2
       go_wp2_with fail
       go_roundw
       case rel => exact ⟨q + 1, by omega, by go_num, by rw [HM2.out]; exact hfin.out, hwn⟩
       case measure => simp [intOf]; omega
      case pos =>
       have hd2 : (g.question.toList == key.toList) = true := by rw [hkq]; simp
       obtain ⟨ix, hix, hixl⟩ := idxFrom_lt (k := 0) (HXO.out g HGM.out hkq)
       rw [Nat.zero_add] at hix
       have HIX := Lib.hid hix
       have HM2 := Lib.hid (show optY x'.opts key p y.paper os (x.answers.take (q + 1)) = my.set ix (my.getD ix 0 + 1) from by rw [HM.out, if_pos ⟨hpp, hkq⟩, bumpA, HIX.out]; rfl)
       have hixs : ix < my.length := by have := HML.out; have := HLN.out; omega
       obtain ⟨hci, hfi⟩ := hac9.intAt hixs
       have hvb := HMB.out (my.getD ix 0) (by rw [List.getD_eq_getElem?_getD, List.getElem?_eq_getElem hixs]; exact List.getElem_mem _)
       obtain ⟨v, hv⟩ : ∃ v, v = my.getD ix 0 := ⟨_, rfl⟩
       rw [← hv] at hci hvb HM2
       have hv0 : 0 ≤ v := hvb.1
       have hv1 : v ≤ 2000000000 := by have := hvb.2; omega
       have hset := Lib.hid (hac9.setInt ix (v + 1))
       have hwn2 := Lib.hid (hwn.then_setCell ⟨ob, ix, none⟩ (.int .i64 (v + 1)) (by simp))
       have HSI := Lib.hid (index_any oa x'.opts.length oc x'.opts g.option wn (HSO.out _ (all_but HQ3.out hln hobq)) (by omega))
       clear hac9 hpp hkq hix hvb hv hwn hln hixs
       go_upto_region 11 with fail
       go_wp2_with fail
       refine (HSI.out).mono ?_
       rintro e w' ⟨rfl, rfl⟩
       rw [HIX.out]
       go_wp2_with fail
       go_roundw
       case rel => exact ⟨q + 1, by omega, by go_num, by rw [HM2.out]; exact hset.out, hwn2.out⟩
       case measure => simp [intOf]; omega
    ·have hdq : decide ((q : Int) < (na : Int)) = false := by simp; omega
     have HE3 := Lib.hid (show x.answers.take q = x.answers from List.take_of_length_le (by have := HNA.out; omega))
     have HF := Lib.hid (show optR x'.opts ts tm key p (s.pairs.take (k + 1)) = optY x'.opts key p y.paper os (x.answers.take q) from by rw [HE3.out, HY.out, HP.out])
     have hfin := Lib.hid hacc
     clear hacc hwr
     go_wp2_with fail
     go_roundw
     case rel => exact ⟨k + 1, by omega, by go_num, by rw [HF.out]; exact hfin.out, hlp⟩
     case measure => simp [intOf]; omega
  ·have hd8 : decide ((k : Int) < (l2 : Int)) = false := by simp; omega
   have HE2 := Lib.hid (show s.pairs.take k = s.pairs from List.take_of_length_le (by have := HPL.out; omega))
   rw [HE2.out] at hacc
   have hsl := hacc.sl RInt.ok (by decide) (G := fun _ => True) (fun _ h => h.elim) (fun _ _ => trivial)
   have HOL := Lib.hid (optR_len x'.opts ts tm key p s.pairs)
   have HSL := Lib.hid hsl
   clear hacc hsl hwr
   go_wp2_with fail
   go_ret
   refine ⟨?_, HK1.out.trans hwo⟩
   obtain ⟨pa, pc, hv, hs⟩ := HSL.out
   injection hv with h1 h2 h3
   subst h1 h3
   exact ⟨some ⟨ob, 0, none⟩, x'.opts.length, by rw [HOL.out]; rfl, hs⟩
end Go.Proofs.YthhmgblcccbdaaaGreatDoor

/- Equal of marks, of numbers. -/
namespace Go.Proofs.YthhmgblcccbdaaaGreatDoor
open Go.RowKit

set_option maxHeartbeats 800000 in
theorem equalMark_same (a1 : Option Addr) (l1 c1 : Nat) (a2 : Option Addr) (l2 c2 : Nat) (cs : List Mark3) (w : World) (h1 : Sl RMark 3 (fun _ => True) w a1 l1 cs) (h2 : Sl RMark 3 (fun _ => True) w a2 l2 cs) (hl : l1 ≤ 1000000) :
  Calls Tryz.prog 38 #[.slice a1 l1 c1, .slice a2 l2 c2] w fun e w' => e = .returned (.bool true) ∧ All w w' := by
 have e1 := h1.len
 have e2 := h2.len
 have e3 : l2 = l1 := by omega
 subst e3
 clear e1 e2
 go_enter Tryz.func38, Tryz.ntmps38
 go_wp2_with fail
 go_loopw [13] (fun i wr => ∃ k : Nat, k ≤ l2 ∧ i = .int .i64 k ∧ All w wr) (fun i _ => l2 - (intOf i).toNat)
 case atStart => exact ⟨0, Nat.zero_le _, rfl, Kept.refl _ _⟩
 case round =>
  obtain ⟨k, hk, rfl, hall⟩ := hrel
  by_cases hlt : k < l2
  ·obtain ⟨b1, o1, y1, ha1, -, p0, p1, p2, -, -, hy1, -⟩ := (h1.keep RMark.ok hall).atMark hlt
   obtain ⟨b2, o2, y2, ha2, -, q0, q1, q2, -, -, hy2, -⟩ := (h2.keep RMark.ok hall).atMark hlt
   have hy : y2 = y1 := by rw [hy1] at hy2; injection hy2 with hy2; exact hy2.symm
   subst hy
   subst ha1
   subst ha2
   clear h1 h2 hy1 hy2
   go_wp2_with fail
   go_quiet (fail)
   go_wp2_with fail
   go_roundw
   case rel => exact ⟨k + 1, by omega, by go_num, hall.then_drewN _⟩
   case measure => simp [intOf]; omega
  ·have hd : decide ((k : Int) < (l2 : Int)) = false := by simp; omega
   go_wp2_with fail
   go_ret
   exact ⟨rfl, hall⟩
set_option maxHeartbeats 800000 in
theorem equalInt_same (a1 : Option Addr) (l1 c1 : Nat) (a2 : Option Addr) (l2 c2 : Nat) (cs : List Int) (w : World) (h1 : Sl RInt 1 (fun _ => True) w a1 l1 cs) (h2 : Sl RInt 1 (fun _ => True) w a2 l2 cs) (hl : l1 ≤ 1000000) :
  Calls Tryz.prog 40 #[.slice a1 l1 c1, .slice a2 l2 c2] w fun e w' => e = .returned (.bool true) ∧ All w w' := by
 have e1 := h1.len
 have e2 := h2.len
 have e3 : l2 = l1 := by omega
 subst e3
 clear e1 e2
 go_enter Tryz.func40, Tryz.ntmps40
 go_wp2_with fail
 go_loopw [13] (fun i wr => ∃ k : Nat, k ≤ l2 ∧ i = .int .i64 k ∧ All w wr) (fun i _ => l2 - (intOf i).toNat)
 case atStart => exact ⟨0, Nat.zero_le _, rfl, Kept.refl _ _⟩
 case round =>
  obtain ⟨k, hk, rfl, hall⟩ := hrel
  by_cases hlt : k < l2
  ·obtain ⟨b1, o1, y1, ha1, -, p0, hy1, -⟩ := (h1.keep RInt.ok hall).atInt hlt
   obtain ⟨b2, o2, y2, ha2, -, q0, hy2, -⟩ := (h2.keep RInt.ok hall).atInt hlt
   have hy : y2 = y1 := by rw [hy1] at hy2; injection hy2 with hy2; exact hy2.symm
   subst hy
   subst ha1
   subst ha2
   clear h1 h2 hy1 hy2
   go_wp2_with fail
   go_quiet (fail)
   go_wp2_with fail
   go_roundw
   case rel => exact ⟨k + 1, by omega, by go_num, hall.then_drewN _⟩
   case measure => simp [intOf]; omega
  ·have hd : decide ((k : Int) < (l2 : Int)) = false := by simp; omega
   go_wp2_with fail
   go_ret
   exact ⟨rfl, hall⟩
end Go.Proofs.YthhmgblcccbdaaaGreatDoor
