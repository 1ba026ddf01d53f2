/- How far the review of a pair is: the method stand; at. -/
import Derived.Test.YtjbaijgdkkccbaaGreatDoorBn
import Derived.Test.YtjbaijgdkkccbaaGreatDoorRs
import Derived.Test.YtjbaijgdkkccbaaGreatDoorBg
import Derived.Test.YtjbaijgdkkccbaaGreatDoorBr
import Derived.Test.YtjbaijgdkkccbaaGreatDoorRa
namespace Go.Proofs.YtjbaijgdkkccbaaGreatDoor
open Go.RowKit

/-- A book, or nothing and an error. -/
def AtV (er : Int) (cs : Array Value) (ts : List Raw) (e : Ending) (w' : World) : Prop :=
  (er = 0 → ∃ kb, e = .returned (.tuple #[.pointer (some ⟨kb, 0, none⟩), .int .i64 0]) ∧ BookIs w' kb cs ts) ∧ (er ≠ 0 → e = .returned (.tuple #[.pointer none, .int .i64 er]))
theorem AtV.bad {er : Int} {cs : Array Value} {ts : List Raw} {w' : World} (h : er ≠ 0) : AtV er cs ts (.returned (.tuple #[.pointer none, .int .i64 er])) w' := ⟨fun h0 => absurd h0 h, fun _ => rfl⟩

end Go.Proofs.YtjbaijgdkkccbaaGreatDoor

/- Stands; StandsOf; Equal of stands and of pairs. -/
namespace Go.Proofs.YtjbaijgdkkccbaaGreatDoor
open Go.RowKit

/-- How far the review of a pair is. -/
structure Std3 where
  paper : ByteArray
  person : ByteArray
  state : Int
def StdSmall (x : Std3) : Prop := x.paper.size ≤ 1000000 ∧ x.person.size ≤ 1000000
def encStd (x : Std3) : List Value := [.string x.paper, .string x.person, .int .i64 x.state]
def RStd : Rel Std3 := fun _ _ vs x => vs = encStd x ∧ StdSmall x
theorem flatStd : Flat RStd encStd StdSmall 3 :=
  ⟨fun _ _ _ _ => Iff.rfl, fun _ => rfl, by decide, fun x u hu => by simp [encStd] at hu; rcases hu with rfl | rfl | rfl <;> rfl⟩
theorem RStd.ok : RStd.Ok := Flat.ok flatStd
end Go.Proofs.YtjbaijgdkkccbaaGreatDoor

/- StandsOf. -/
namespace Go.Proofs.YtjbaijgdkkccbaaGreatDoor
open Go.RowKit

end Go.Proofs.YtjbaijgdkkccbaaGreatDoor

/- The reviews that count, pair by pair. -/
namespace Go.Proofs.YtjbaijgdkkccbaaGreatDoor
open Go.RowKit

end Go.Proofs.YtjbaijgdkkccbaaGreatDoor

/- Full. -/
namespace Go.Proofs.YtjbaijgdkkccbaaGreatDoor
open Go.RowKit

/-- Strings, or nothing and an error. -/
def StrV (er : Int) (xs : List ByteArray) (e : Ending) (w' : World) : Prop :=
  (er = 0 → ∃ (p : Option Addr) (c : Nat), e = .returned (.tuple #[.slice p xs.length c, .int .i64 0]) ∧ Sl RStr 1 (fun _ => True) w' p xs.length xs) ∧ (er ≠ 0 → e = .returned (.tuple #[.slice none 0 0, .int .i64 er]))
theorem StrV.bad {er : Int} {xs : List ByteArray} {w' : World} (h : er ≠ 0) : StrV er xs (.returned (.tuple #[.slice none 0 0, .int .i64 er])) w' := ⟨fun h0 => absurd h0 h, fun _ => rfl⟩
end Go.Proofs.YtjbaijgdkkccbaaGreatDoor

/- FullOf. -/
namespace Go.Proofs.YtjbaijgdkkccbaaGreatDoor
open Go.RowKit

end Go.Proofs.YtjbaijgdkkccbaaGreatDoor

/- What Marks gives, plain: one answer of a question in each review that counts. -/
namespace Go.Proofs.YtjbaijgdkkccbaaGreatDoor
open Go.RowKit

end Go.Proofs.YtjbaijgdkkccbaaGreatDoor

/- What Level and Since give, plain. -/
namespace Go.Proofs.YtjbaijgdkkccbaaGreatDoor
open Go.RowKit

/-- What a checked list of reviews gives for each of them. -/
theorem revF_parts {s : Set7} {no : Nat} {prev : Option Rev} {r : Rev} (h : revF s no prev r = 0) : r.no = no ∧ (0 ≤ r.tm ∧ r.tm < 5761440) ∧ backB prev r.tm = false ∧ inP s.pairs r.paper r.person = true ∧ r.by_ ≠ r.person ∧ ¬ (r.by_.size ≠ 0 ∧ isKeyB r.by_ = false) := by
  by_cases h1 : r.no ≠ no ∨ ¬ (0 ≤ r.tm ∧ r.tm < 5761440)
  · rw [revF_arg h1] at h; exact absurd h (by decide)
  have h1a : r.no = no := Classical.byContradiction fun e => h1 (Or.inl e)
  have h1b : 0 ≤ r.tm ∧ r.tm < 5761440 := Classical.byContradiction fun e => h1 (Or.inr e)
  cases h3 : backB prev r.tm with
  | true => rw [revF_order h1a h1b h3] at h; exact absurd h (by decide)
  | false =>
    cases h4 : inP s.pairs r.paper r.person with
    | false => rw [revF_none h1a h1b h3 h4] at h; exact absurd h (by decide)
    | true =>
      by_cases h5 : r.by_.size ≠ 0 ∧ isKeyB r.by_ = false
      · rw [revF_name h1a h1b h3 h4 h5] at h; exact absurd h (by decide)
      · rw [revF_ok h1a h1b h3 h4 h5] at h
        by_cases h6 : r.by_ = r.person
        · rw [if_pos h6] at h; exact absurd h (by decide)
        · exact ⟨h1a, h1b, rfl, rfl, h6, h5⟩
/-- A fact of each review that a checked review has. -/
theorem revsG_each {s : Set7} {P : Rev → Prop} (hP : ∀ no prev r, revF s no prev r = 0 → P r) : ∀ (l : List Rev) (no : Nat) (prev : Option Rev), revsG s no prev l = 0 → ∀ r ∈ l, P r
  | [], _, _, _, _, hr => nomatch hr
  | x :: l, no, prev, h, r, hr => by
    rw [revsG_cons] at h
    split at h
    · rename_i h0; exact absurd h h0
    · rename_i h0
      rcases List.mem_cons.1 hr with rfl | hr
      · exact hP _ _ _ (Classical.not_not.1 h0)
      · exact revsG_each hP l _ _ h r hr
theorem revsF_each {s : Set7} {P : Rev → Prop} (hP : ∀ no prev r, revF s no prev r = 0 → P r) {xs : List Rev} (h : revsF s xs = 0) : ∀ r ∈ xs, P r := by
  unfold revsF at h
  split at h
  · rename_i h1; exact absurd h h1
  split at h
  · omega
  exact revsG_each hP xs _ _ h
theorem revsF_setup0 {s : Set7} {xs : List Rev} (h : revsF s xs = 0) : setupF s = 0 := by
  apply Classical.byContradiction
  intro hs
  rw [revsF_setup hs] at h
  exact hs h
theorem revsF_pairs {s : Set7} {xs : List Rev} (h : revsF s xs = 0) : ∀ r ∈ xs, inP s.pairs r.paper r.person = true := revsF_each (fun _ _ _ h => (revF_parts h).2.2.2.1) h
theorem revsF_times {s : Set7} {xs : List Rev} (h : revsF s xs = 0) : ∀ r ∈ xs, 0 ≤ r.tm ∧ r.tm < 5761440 := revsF_each (fun _ _ _ h => (revF_parts h).2.1) h

theorem lastO_isSome {ts : List Raw} {p : K2} {tm : Int} : (lastO ts p tm true).isSome = true ↔ ∃ z ∈ bookF ts p, z.1.tm ≤ tm ∧ z.1.done = true := by
  unfold lastO
  rw [List.find?_isSome]
  constructor
  · rintro ⟨z, hz, h⟩
    rw [hitR_iff] at h
    exact ⟨z, List.mem_reverse.1 hz, h.1, by have := h.2; simpa [hitR] using this⟩
  · rintro ⟨z, hz, h1, h2⟩
    exact ⟨z, List.mem_reverse.2 hz, by rw [hitR_iff]; exact ⟨h1, by simp [h2]⟩⟩
/-- What somebody sees of the review of a pair at a moment. -/
noncomputable def levelF (s : Set7) (ts : List Raw) (who : ByteArray) (p : Pair2) (tm : Int) : Int :=
  if authB s.papers p.paper who = true then (if s.reply ≤ tm then 1 else 0)
  else if inP s.barred p.paper who = true then 0
  else if who = p.person ∨ memB who s.chairs = true then 3
  else if (lastO ts (p.paper, who) tm true).isSome = true then 2 else 0
/-- Whether a moment is one at which something is seen. -/
noncomputable def hitF (s : Set7) (ts : List Raw) (who : ByteArray) (p : Pair2) (m : Int) : Bool := decide (0 ≤ m ∧ m < 5761440) && decide (levelF s ts who p m ≠ 0)
def ownT (ts : List Raw) (p : K2) : List Int := (bookF ts p).map (·.1.tm)
def momsB (s : Set7) (ts : List Raw) (who : ByteArray) (p : Pair2) : List Int := 0 :: s.reply :: ownT ts (p.paper, who)
def momsE (s : Set7) (ts : List Raw) : List Int := 0 :: s.reply :: ts.map (·.1.tm)
noncomputable def sinceB (s : Set7) (ts : List Raw) (who : ByteArray) (p : Pair2) : Option Int := (srtI (momsB s ts who p)).find? (hitF s ts who p)
noncomputable def sinceE (s : Set7) (ts : List Raw) (who : ByteArray) (p : Pair2) : Option Int := (srtI (momsE s ts)).find? (hitF s ts who p)
/-- In a rising list the first hit is the least one. -/
theorem find_least {p : Int → Bool} {m : Int} : ∀ {l : List Int}, l.Pairwise (fun x y => x ≤ y) → m ∈ l → p m = true → (∀ x ∈ l, p x = true → m ≤ x) → l.find? p = some m
  | x :: l, hs, hm, hp, hmin => by
    rw [List.find?_cons]
    cases hx : p x with
    | true =>
      have h1 := hmin x (by simp) hx
      rcases List.mem_cons.1 hm with rfl | hm
      · rfl
      · have := (List.pairwise_cons.1 hs).1 m hm
        simp only [Option.some.injEq]; omega
    | false =>
      rcases List.mem_cons.1 hm with rfl | hm
      · rw [hp] at hx; exact nomatch hx
      · exact find_least (List.pairwise_cons.1 hs).2 hm hp (fun y hy => hmin y (by simp [hy]))
theorem find_min {p : Int → Bool} {m : Int} : ∀ {l : List Int}, l.Pairwise (fun x y => x ≤ y) → l.find? p = some m → ∀ x ∈ l, p x = true → m ≤ x
  | y :: l, hs, h, x, hx, hp => by
    rw [List.find?_cons] at h
    cases hy : p y with
    | true =>
      rw [hy] at h
      injection h with h
      subst h
      rcases List.mem_cons.1 hx with rfl | hx
      · omega
      · exact (List.pairwise_cons.1 hs).1 x hx
    | false =>
      rw [hy] at h
      rcases List.mem_cons.1 hx with rfl | hx
      · rw [hp] at hy; exact nomatch hy
      · exact find_min (List.pairwise_cons.1 hs).2 h x hx hp
theorem find_same {p : Int → Bool} {a b : List Int} (hab : ∀ x ∈ a, x ∈ b) (hba : ∀ x ∈ b, p x = true → ∃ y ∈ a, y ≤ x ∧ p y = true) : (srtI a).find? p = (srtI b).find? p := by
  cases h : (srtI a).find? p with
  | some m =>
    have hm := List.mem_of_find?_eq_some h
    have hp := List.find?_some h
    refine (find_least (srtI_sorted b) (srtI_mem.2 (hab m (srtI_mem.1 hm))) hp (fun x hx hpx => ?_)).symm
    obtain ⟨y, hy, hyx, hpy⟩ := hba x (srtI_mem.1 hx) hpx
    have := find_min (srtI_sorted a) h y (srtI_mem.2 hy) hpy
    omega
  | none =>
    refine (List.find?_eq_none.2 fun x hx hpx => ?_).symm
    obtain ⟨y, hy, -, hpy⟩ := hba x (srtI_mem.1 hx) hpx
    exact List.find?_eq_none.1 h y (srtI_mem.2 hy) hpy
theorem setupF_reply {s : Set7} (h : setupF s = 0) : 0 ≤ s.reply ∧ s.reply ≤ 5761440 := by
  obtain ⟨h1, h2, h3, h4⟩ := setupF_good h
  rw [setupF_ok4 h1 h2 h3 h4] at h
  split at h
  · omega
  split at h
  · omega
  split at h
  · rename_i h5; exact absurd h h5
  split at h
  · omega
  · rename_i h6; simp only [not_or] at h6; omega
theorem mem_bookF {ts : List Raw} {p : K2} {z : Raw} (h : z ∈ bookF ts p) : z ∈ ts := (List.mem_filter.1 h).1
theorem since_eq {s : Set7} {ts : List Raw} (hr : revsF s (ts.map (·.1)) = 0) (who : ByteArray) (p : Pair2) : sinceB s ts who p = sinceE s ts who p := by
  unfold sinceB sinceE
  refine find_same (fun x hx => ?_) (fun x _ hx => ?_)
  · rcases List.mem_cons.1 hx with rfl | hx
    · simp [momsE]
    rcases List.mem_cons.1 hx with rfl | hx
    · simp [momsE]
    · obtain ⟨z, hz, rfl⟩ := List.mem_map.1 hx
      exact List.mem_cons.2 (Or.inr (List.mem_cons.2 (Or.inr (List.mem_map.2 ⟨z, mem_bookF hz, rfl⟩))))
  · unfold hitF at hx
    rw [Bool.and_eq_true, decide_eq_true_iff, decide_eq_true_iff] at hx
    obtain ⟨hm, hl⟩ := hx
    unfold levelF at hl
    by_cases h1 : authB s.papers p.paper who = true
    · rw [if_pos h1] at hl
      have h2 : s.reply ≤ x := by apply Classical.byContradiction; intro h2; rw [if_neg h2] at hl; exact hl rfl
      have h3 := setupF_reply (revsF_setup0 hr)
      exact ⟨s.reply, by simp [momsB], h2, by unfold hitF levelF; rw [if_pos h1, if_pos (Int.le_refl _)]; simp; omega⟩
    · rw [if_neg h1] at hl
      by_cases h2 : inP s.barred p.paper who = true
      · rw [if_pos h2] at hl; exact absurd rfl hl
      · rw [if_neg h2] at hl
        by_cases h3 : who = p.person ∨ memB who s.chairs = true
        · exact ⟨0, by simp [momsB], hm.1, by unfold hitF levelF; rw [if_neg h1, if_neg h2, if_pos h3]; simp⟩
        · rw [if_neg h3] at hl
          have h4 : (lastO ts (p.paper, who) x true).isSome = true := by apply Classical.byContradiction; intro h4; rw [if_neg h4] at hl; exact hl rfl
          obtain ⟨z, hz, hz1, hz2⟩ := lastO_isSome.1 h4
          have hzt := revsF_times hr z.1 (List.mem_map_of_mem (mem_bookF hz))
          refine ⟨z.1.tm, List.mem_cons.2 (Or.inr (List.mem_cons.2 (Or.inr (List.mem_map.2 ⟨z, hz, rfl⟩)))), hz1, ?_⟩
          unfold hitF levelF
          rw [if_neg h1, if_neg h2, if_neg h3, if_pos (lastO_isSome.2 ⟨z, hz, Int.le_refl _, hz2⟩)]
          simp; omega
end Go.Proofs.YtjbaijgdkkccbaaGreatDoor
