/- compare answers ordR. -/
import Derived.Test.YtiecaedgphdfdaaGreatDoorTd
import Derived.Test.YtiecaedgphdfdaaGreatDoorTe
import Derived.Test.YtiecaedgphdfdaaGreatDoorRe
import Derived.Test.YtiecaedgphdfdaaGreatDoorSj
import Derived.Test.YtiecaedgphdfdaaGreatDoorZh
namespace Go.Proofs.YtiecaedgphdfdaaGreatDoor
open Go.RowKit

/-- What the operations of compare's region leave. -/
def DCmp (c : Int) (mp vp vq vx vy : Value) (p q : ByteArray) (B : Nat) (zx : Array Value) : Nat → Act → World → Prop
  | 0 => fun a _ => a.tmps.getD 21 undef = .int .i64 c
  | 1 => fun a _ => a.tmps.getD 22 undef = mp
  | 2 => fun a _ => a.tmps.getD 23 undef = .string p
  | 3 => fun a _ => a.tmps.getD 24 undef = vp
  | 4 => fun a _ => a.tmps.getD 25 undef = vx
  | 5 => fun a _ => a.tmps.getD 26 undef = .int .i64 c
  | 6 => fun a _ => a.tmps.getD 27 undef = mp
  | 7 => fun a _ => a.tmps.getD 28 undef = .string q
  | 8 => fun a _ => a.tmps.getD 29 undef = vq
  | 9 => fun a _ => a.tmps.getD 30 undef = vy
  | 10 => fun a w => ∃ b, a.tmps.getD 11 undef = (.pointer (some ⟨b, 0, none⟩)) ∧ B ≤ b ∧ ∃ c0 c1, w.heap[b]? = some (.cells #[c0, c1] 142 (0, 0))
  | 11 => fun a w => ∃ b, a.tmps.getD 12 undef = (.pointer (some ⟨b, 0, none⟩)) ∧ B ≤ b ∧ w.heap[b]? = some (.cells #[.int .i64 0, .int .i64 0] 142 (0, 0))
  | _ => fun a w => ∃ b, a.tmps.getD 11 undef = (.pointer (some ⟨b, 0, none⟩)) ∧ B ≤ b ∧ w.heap[b]? = some (.cells zx 142 (0, 0))
/-- The two blocks that hold the fractions are two. -/
def SepCmp (B : Nat) (a : Act) (w : World) : Prop :=
  (∀ b, a.tmps.getD 11 undef = (.pointer (some ⟨b, 0, none⟩)) → b < w.heap.size) ∧ (∀ b, a.tmps.getD 12 undef = (.pointer (some ⟨b, 0, none⟩)) → b < w.heap.size) ∧
  ∀ b b', a.tmps.getD 11 undef = (.pointer (some ⟨b, 0, none⟩)) → a.tmps.getD 12 undef = (.pointer (some ⟨b', 0, none⟩)) → B ≤ b → B ≤ b' → b ≠ b'
theorem SepCmp.keep {B : Nat} {a : Act} {w w' : World} (h : SepCmp B a w) (hw : w.heap.size ≤ w'.heap.size) (d : Option Tmp) (v : Value) (h1 : d ≠ some 11) (h2 : d ≠ some 12) : SepCmp B (a.put d v) w' := by
  unfold SepCmp at *
  rw [put_at v h1, put_at v h2]
  exact ⟨fun b hb => by have := h.1 b hb; omega, fun b hb => by have := h.2.1 b hb; omega, h.2.2⟩
def MCmp (B j : Nat) (a : Act) (w w' : World) : Prop :=
  if j = 12 then ∃ b, a.tmps.getD 11 undef = (.pointer (some ⟨b, 0, none⟩)) ∧ B ≤ b ∧ Kept (fun k => k ≠ b) w w' ∧ ∃ c0 c1, w'.heap[b]? = some (.cells #[c0, c1] 142 (0, 0)) else All w w'
theorem DCmp.keep {c : Int} {mp vp vq vx vy : Value} {p q : ByteArray} {B : Nat} {zx : Array Value} {ops : Array Oper} (hd : ∀ i, i < 13 → dstAt ops i = [some 21, some 22, some 23, some 24, some 25, some 26, some 27, some 28, some 29, some 30, some 11, some 12, none].getD i none) (h12 : 10 ∈ depsOf ops 12)
    (i j : Nat) (a : Act) (w : World) (v : Value) (w' : World) (hi : i < 13) (hj : j < 13) (hij : i ≠ j) (hdep : j ∉ depsOf ops i) (hs : SepCmp B a w) (hm : MCmp B j a w w') (h : DCmp c mp vp vq vx vy p q B zx i a w) : DCmp c mp vp vq vx vy p q B zx i (a.put (dstAt ops j) v) w' := by
  have hne : ∀ t, [some 21, some 22, some 23, some 24, some 25, some 26, some 27, some 28, some 29, some 30, some 11, some 12, (none : Option Tmp)].getD j none ≠ some t → (a.put (dstAt ops j) v).tmps.getD t undef = a.tmps.getD t undef := fun t ht => put_at v (by rw [hd j hj]; exact ht)
  have hcj : j = 0 ∨ j = 1 ∨ j = 2 ∨ j = 3 ∨ j = 4 ∨ j = 5 ∨ j = 6 ∨ j = 7 ∨ j = 8 ∨ j = 9 ∨ j = 10 ∨ j = 11 ∨ j = 12 := by omega
  have hci : i = 0 ∨ i = 1 ∨ i = 2 ∨ i = 3 ∨ i = 4 ∨ i = 5 ∨ i = 6 ∨ i = 7 ∨ i = 8 ∨ i = 9 ∨ i = 10 ∨ i = 11 ∨ i = 12 := by omega
  rcases hci with rfl | rfl | rfl | rfl | rfl | rfl | rfl | rfl | rfl | rfl | rfl | rfl | rfl
  · show (a.put (dstAt ops j) v).tmps.getD 21 undef = _
    rw [hne 21 (by rcases hcj with rfl | rfl | rfl | rfl | rfl | rfl | rfl | rfl | rfl | rfl | rfl | rfl | rfl <;> first | decide | exact absurd rfl hij)]
    exact h
  · show (a.put (dstAt ops j) v).tmps.getD 22 undef = _
    rw [hne 22 (by rcases hcj with rfl | rfl | rfl | rfl | rfl | rfl | rfl | rfl | rfl | rfl | rfl | rfl | rfl <;> first | decide | exact absurd rfl hij)]
    exact h
  · show (a.put (dstAt ops j) v).tmps.getD 23 undef = _
    rw [hne 23 (by rcases hcj with rfl | rfl | rfl | rfl | rfl | rfl | rfl | rfl | rfl | rfl | rfl | rfl | rfl <;> first | decide | exact absurd rfl hij)]
    exact h
  · show (a.put (dstAt ops j) v).tmps.getD 24 undef = _
    rw [hne 24 (by rcases hcj with rfl | rfl | rfl | rfl | rfl | rfl | rfl | rfl | rfl | rfl | rfl | rfl | rfl <;> first | decide | exact absurd rfl hij)]
    exact h
  · show (a.put (dstAt ops j) v).tmps.getD 25 undef = _
    rw [hne 25 (by rcases hcj with rfl | rfl | rfl | rfl | rfl | rfl | rfl | rfl | rfl | rfl | rfl | rfl | rfl <;> first | decide | exact absurd rfl hij)]
    exact h
  · show (a.put (dstAt ops j) v).tmps.getD 26 undef = _
    rw [hne 26 (by rcases hcj with rfl | rfl | rfl | rfl | rfl | rfl | rfl | rfl | rfl | rfl | rfl | rfl | rfl <;> first | decide | exact absurd rfl hij)]
    exact h
  · show (a.put (dstAt ops j) v).tmps.getD 27 undef = _
    rw [hne 27 (by rcases hcj with rfl | rfl | rfl | rfl | rfl | rfl | rfl | rfl | rfl | rfl | rfl | rfl | rfl <;> first | decide | exact absurd rfl hij)]
    exact h
  · show (a.put (dstAt ops j) v).tmps.getD 28 undef = _
    rw [hne 28 (by rcases hcj with rfl | rfl | rfl | rfl | rfl | rfl | rfl | rfl | rfl | rfl | rfl | rfl | rfl <;> first | decide | exact absurd rfl hij)]
    exact h
  · show (a.put (dstAt ops j) v).tmps.getD 29 undef = _
    rw [hne 29 (by rcases hcj with rfl | rfl | rfl | rfl | rfl | rfl | rfl | rfl | rfl | rfl | rfl | rfl | rfl <;> first | decide | exact absurd rfl hij)]
    exact h
  · show (a.put (dstAt ops j) v).tmps.getD 30 undef = _
    rw [hne 30 (by rcases hcj with rfl | rfl | rfl | rfl | rfl | rfl | rfl | rfl | rfl | rfl | rfl | rfl | rfl <;> first | decide | exact absurd rfl hij)]
    exact h
  · obtain ⟨b, h1, h2, c0, c1, h3⟩ := h
    have e : (a.put (dstAt ops j) v).tmps.getD 11 undef = a.tmps.getD 11 undef := hne 11 (by rcases hcj with rfl | rfl | rfl | rfl | rfl | rfl | rfl | rfl | rfl | rfl | rfl | rfl | rfl <;> first | decide | exact absurd rfl hij)
    refine ⟨b, by rw [e]; exact h1, h2, ?_⟩
    unfold MCmp at hm
    by_cases hj12 : j = 12
    · rw [if_pos hj12] at hm
      obtain ⟨b2, g1, g2, g3, g4⟩ := hm
      have : b2 = b := by rw [h1] at g1; injection g1 with g1; injection g1 with g1; injection g1 with g1; exact g1.symm
      rw [← this]; exact g4
    · rw [if_neg hj12] at hm; exact ⟨c0, c1, hm.heap h3 trivial⟩
  · obtain ⟨b, h1, h2, h3⟩ := h
    have e : (a.put (dstAt ops j) v).tmps.getD 12 undef = a.tmps.getD 12 undef := hne 12 (by rcases hcj with rfl | rfl | rfl | rfl | rfl | rfl | rfl | rfl | rfl | rfl | rfl | rfl | rfl <;> first | decide | exact absurd rfl hij)
    refine ⟨b, by rw [e]; exact h1, h2, ?_⟩
    unfold MCmp at hm
    by_cases hj12 : j = 12
    · rw [if_pos hj12] at hm
      obtain ⟨b2, g1, g2, g3, g4⟩ := hm
      exact g3.heap h3 (fun e => hs.2.2 b2 b g1 h1 g2 h2 e.symm)
    · rw [if_neg hj12] at hm; exact hm.heap h3 trivial
  · obtain ⟨b, h1, h2, h3⟩ := h
    have hj10 : j ≠ 10 := fun e => hdep (e ▸ h12)
    have e : (a.put (dstAt ops j) v).tmps.getD 11 undef = a.tmps.getD 11 undef := hne 11 (by rcases hcj with rfl | rfl | rfl | rfl | rfl | rfl | rfl | rfl | rfl | rfl | rfl | rfl | rfl <;> first | decide | exact absurd rfl hj10)
    refine ⟨b, by rw [e]; exact h1, h2, ?_⟩
    unfold MCmp at hm
    rw [if_neg (Ne.symm hij)] at hm
    exact hm.heap h3 trivial

set_option maxRecDepth 100000 in
set_option maxHeartbeats 6400000 in
theorem compare_any (a : Option Addr) (len cap : Nat) (cs : List Int) (fl : Int) {B mb n : Nat} {vals : ByteArray → Value} {f : ByteArray → List Int} (p q : ByteArray) (w : World)
    (hs : Sl RInt 1 (fun _ => True) w a len cs) (hl : len ≤ 1000000) (hsc : SC w B mb n vals f) (hp : p.size ≤ 1000000) (hq : q.size ≤ 1000000) (hf : ∀ r, (∀ z ∈ f r, 0 ≤ z ∧ z ≤ 10) ∧ (f r).length ≤ 3000) :
    Calls Tryz.prog 73 #[.agg #[.slice a len cap, .int .i64 fl], .map (some mb), .string p, .string q] w fun e w' => e = .returned (.int .i64 (ordR cs (f p) (f q) p q)) ∧ All w w' := by
  obtain ⟨ap, cp, hvp, hsp⟩ := (hsc.acc p).sl RInt.ok (by decide) (G := fun _ => True) (fun _ h => h.elim) (fun _ _ => trivial)
  obtain ⟨aq, cq, hvq, hsq⟩ := (hsc.acc q).sl RInt.ok (by decide) (G := fun _ => True) (fun _ h => h.elim) (fun _ _ => trivial)
  have HLP := Lib.hid (fun (wr : World) (hk : All w wr) => show (Instr.lookup 136 (.map (some mb)) (.string p) false).run Tryz.prog wr = .ok (.slice ap (f p).length cp) wr from by rw [← hvp]; exact (hsc.keep hk).look Tryz.underlying136 p hp)
  have HLQ := Lib.hid (fun (wr : World) (hk : All w wr) => show (Instr.lookup 136 (.map (some mb)) (.string q) false).run Tryz.prog wr = .ok (.slice aq (f q).length cq) wr from by rw [← hvq]; exact (hsc.keep hk).look Tryz.underlying136 q hq)
  have HP := Lib.hid (fun (c : Int) (wr : World) (hk : All w wr) => value_any c ap (f p).length cp (f p) wr (hsp.keep RInt.ok hk) (hf p).2 (hf p).1)
  have HQ := Lib.hid (fun (c : Int) (wr : World) (hk : All w wr) => value_any c aq (f q).length cq (f q) wr (hsq.keep RInt.ok hk) (hf q).2 (hf q).1)
  have HZP := Lib.hid (hf p)
  have HZQ := Lib.hid (hf q)
  have Hlen := Lib.hid hs.len
  have hk1 : All w (w.alloc (.cells #[.slice a len cap, .int .i64 fl] 52)) := Kept.alloc _ _ _
  have hrb := heap_at w (.cells #[.slice a len cap, .int .i64 fl] 52) _ rfl
  have r0 := cell_at (i := 0) hrb rfl
  clear hvp hvq hsp hsq hsc hf
  generalize f p = x at *
  generalize f q = y at *
  go_enter Tryz.func73, Tryz.ntmps73
  go_wp2_with fail
  generalize w.alloc (.cells #[.slice a len cap, .int .i64 fl] 52) = w1 at *
  clear r0 hrb
  go_loopw [11, 12, 17] (fun u1 u2 i wr => ∃ k : Nat, k ≤ len ∧ i = .int .i64 k ∧ OrdAt cs x y p q k ∧ All w wr ∧ (∀ b, u1 = (.pointer (some ⟨b, 0, none⟩)) → b < wr.heap.size) ∧ ∀ b, u2 = (.pointer (some ⟨b, 0, none⟩)) → b < wr.heap.size) (fun _ _ i _ => len - (intOf i).toNat)
  case atStart => exact ⟨0, Nat.zero_le _, rfl, OrdAt.zero _ _ _ _ _, hk1, fun b h => (by simp [undef] at h), fun b h => (by simp [undef] at h)⟩
  case round =>
    obtain ⟨k, hk, rfl, hat, hall, hu1, hu2⟩ := hrel
    obtain ⟨wo, rfl⟩ : ∃ wo : World, wo = wr := ⟨_, rfl⟩
    have HA := Lib.hid hat
    have HU1 := Lib.hid hu1
    have HU2 := Lib.hid hu2
    clear hat hu1 hu2
    by_cases hlt : k < len
    · obtain ⟨b, off, c, ha, -, hck, hy, -, -⟩ := (hs.keep RInt.ok hall).atInt hlt
      have Hy := Lib.hid hy
      subst ha
      clear hs hy
      obtain ⟨bx1, bx2, bx3, bx4⟩ := val_bound (c := c) HZP.out.1 HZP.out.2
      obtain ⟨by1, by2, by3, by4⟩ := val_bound (c := c) HZQ.out.1 HZQ.out.2
      obtain ⟨bm1, bm2⟩ := mul_bd by1 by2 bx3 bx4
      obtain ⟨bm3, bm4⟩ := mul_bd bx1 bx2 by3 by4
      have HB := Lib.hid (show betR c x y = cmpI (valN c y * valD c x) (valN c x * valD c y) from (bet_val HZP.out.1 HZQ.out.1).symm)
      have HPc := Lib.hid (HP.out c)
      have HQc := Lib.hid (HQ.out c)
      generalize valN c x = xn at *
      generalize valD c x = xd at *
      generalize valN c y = yn at *
      generalize valD c y = yd at *
      go_wp2_with fail
      refine wp_region_gen 13 (by kernel_rfl) (by kernel_rfl) (fun _ a' w' => All wo w' ∧ SepCmp wo.heap.size a' w') (DCmp c (.map (some mb)) (.slice ap x.length cp) (.slice aq y.length cq) (.agg #[.int .i64 xn, .int .i64 xd]) (.agg #[.int .i64 yn, .int .i64 yd]) p q wo.heap.size #[.int .i64 xn, .int .i64 xd])
        (fun j a' _ w' w'' => MCmp wo.heap.size j a' w' w'') (fun i j _ a' w' v w'' hi hj hij hdep hg hm h => DCmp.keep (by intro i hi; have hci : i = 0 ∨ i = 1 ∨ i = 2 ∨ i = 3 ∨ i = 4 ∨ i = 5 ∨ i = 6 ∨ i = 7 ∨ i = 8 ∨ i = 9 ∨ i = 10 ∨ i = 11 ∨ i = 12 := (by omega); rcases hci with rfl | rfl | rfl | rfl | rfl | rfl | rfl | rfl | rfl | rfl | rfl | rfl | rfl <;> rfl) (by decide) i j a' w' v w'' hi hj hij hdep hg.2 hm h) ?_ ?_ ?_
      · refine ⟨(Kept.refl _ _).then_drew, fun b hb => ?_, fun b hb => ?_, fun b b' hb hb' h1 h2 => ?_⟩
        · exact HU1.out b (by simpa using hb)
        · exact HU2.out b (by simpa using hb)
        · have := HU1.out b (by simpa using hb)
          omega
      · intro i o ho hi k' a' wx hk' hg hdf hts hoth hdeps
        obtain ⟨hga, hgs⟩ := hg
        have hsz : a'.tmps.size = 49 := hts
        have hallx := hall.trans hga
        have hszx := hga.size
        have hci : i = 0 ∨ i = 1 ∨ i = 2 ∨ i = 3 ∨ i = 4 ∨ i = 5 ∨ i = 6 ∨ i = 7 ∨ i = 8 ∨ i = 9 ∨ i = 10 ∨ i = 11 ∨ i = 12 := by omega
        rcases hci with rfl | rfl | rfl | rfl | rfl | rfl | rfl | rfl | rfl | rfl | rfl | rfl | rfl
        · obtain rfl := Option.some.inj ho
          have e0 : a'.tmps.getD 10 undef = .int .i64 c := tmp_of ((hoth 10 (by decide)).trans rfl)
          clear hoth hdeps hdf hts ho
          refine wp_via (fun K' hK => ?_)
          have HK := Lib.hid hK
          clear hK
          go_simp
          exact HK.out _ _ ⟨_, rfl, ⟨hga, hgs.keep (Nat.le_refl _) _ _ (by decide) (by decide)⟩, (if_neg (by decide)).mpr (Kept.refl _ _), put_same _ (show 21 < a'.tmps.size by omega)⟩
        · obtain rfl := Option.some.inj ho
          have e0 : a'.tmps.getD 1 undef = .map (some mb) := tmp_of ((hoth 1 (by decide)).trans rfl)
          clear hoth hdeps hdf hts ho
          refine wp_via (fun K' hK => ?_)
          have HK := Lib.hid hK
          clear hK
          go_simp
          exact HK.out _ _ ⟨_, rfl, ⟨hga, hgs.keep (Nat.le_refl _) _ _ (by decide) (by decide)⟩, (if_neg (by decide)).mpr (Kept.refl _ _), put_same _ (show 22 < a'.tmps.size by omega)⟩
        · obtain rfl := Option.some.inj ho
          have e0 : a'.tmps.getD 2 undef = .string p := tmp_of ((hoth 2 (by decide)).trans rfl)
          clear hoth hdeps hdf hts ho
          refine wp_via (fun K' hK => ?_)
          have HK := Lib.hid hK
          clear hK
          go_simp
          exact HK.out _ _ ⟨_, rfl, ⟨hga, hgs.keep (Nat.le_refl _) _ _ (by decide) (by decide)⟩, (if_neg (by decide)).mpr (Kept.refl _ _), put_same _ (show 23 < a'.tmps.size by omega)⟩
        · obtain rfl := Option.some.inj ho
          have e1 : a'.tmps.getD 22 undef = .map (some mb) := hdeps 1 (by decide)
          have e2 : a'.tmps.getD 23 undef = .string p := hdeps 2 (by decide)
          have hlk := HLP.out wx hallx
          clear hoth hdeps hdf hts ho
          refine wp_via (fun K' hK => ?_)
          have HK := Lib.hid hK
          clear hK
          go_simp
          exact HK.out _ _ ⟨_, rfl, ⟨hga, hgs.keep (Nat.le_refl _) _ _ (by decide) (by decide)⟩, (if_neg (by decide)).mpr (Kept.refl _ _), put_same _ (show 24 < a'.tmps.size by omega)⟩
        · obtain rfl := Option.some.inj ho
          have e1 : a'.tmps.getD 21 undef = .int .i64 c := hdeps 0 (by decide)
          have e2 : a'.tmps.getD 24 undef = .slice ap x.length cp := hdeps 3 (by decide)
          clear hoth hdeps hdf hts ho
          refine wp_via (fun K' hK => ?_)
          have HK := Lib.hid hK
          clear hK
          go_simp
          refine (HPc.out wx hallx).mono ?_
          rintro e w2 ⟨rfl, hw2⟩
          exact HK.out _ _ ⟨_, rfl, ⟨hga.trans hw2, hgs.keep hw2.size _ _ (by decide) (by decide)⟩, (if_neg (by decide)).mpr hw2, put_same _ (show 25 < a'.tmps.size by omega)⟩
        · obtain rfl := Option.some.inj ho
          have e0 : a'.tmps.getD 10 undef = .int .i64 c := tmp_of ((hoth 10 (by decide)).trans rfl)
          clear hoth hdeps hdf hts ho
          refine wp_via (fun K' hK => ?_)
          have HK := Lib.hid hK
          clear hK
          go_simp
          exact HK.out _ _ ⟨_, rfl, ⟨hga, hgs.keep (Nat.le_refl _) _ _ (by decide) (by decide)⟩, (if_neg (by decide)).mpr (Kept.refl _ _), put_same _ (show 26 < a'.tmps.size by omega)⟩
        · obtain rfl := Option.some.inj ho
          have e0 : a'.tmps.getD 1 undef = .map (some mb) := tmp_of ((hoth 1 (by decide)).trans rfl)
          clear hoth hdeps hdf hts ho
          refine wp_via (fun K' hK => ?_)
          have HK := Lib.hid hK
          clear hK
          go_simp
          exact HK.out _ _ ⟨_, rfl, ⟨hga, hgs.keep (Nat.le_refl _) _ _ (by decide) (by decide)⟩, (if_neg (by decide)).mpr (Kept.refl _ _), put_same _ (show 27 < a'.tmps.size by omega)⟩
        · obtain rfl := Option.some.inj ho
          have e0 : a'.tmps.getD 3 undef = .string q := tmp_of ((hoth 3 (by decide)).trans rfl)
          clear hoth hdeps hdf hts ho
          refine wp_via (fun K' hK => ?_)
          have HK := Lib.hid hK
          clear hK
          go_simp
          exact HK.out _ _ ⟨_, rfl, ⟨hga, hgs.keep (Nat.le_refl _) _ _ (by decide) (by decide)⟩, (if_neg (by decide)).mpr (Kept.refl _ _), put_same _ (show 28 < a'.tmps.size by omega)⟩
        · obtain rfl := Option.some.inj ho
          have e1 : a'.tmps.getD 27 undef = .map (some mb) := hdeps 6 (by decide)
          have e2 : a'.tmps.getD 28 undef = .string q := hdeps 7 (by decide)
          have hlk := HLQ.out wx hallx
          clear hoth hdeps hdf hts ho
          refine wp_via (fun K' hK => ?_)
          have HK := Lib.hid hK
          clear hK
          go_simp
          exact HK.out _ _ ⟨_, rfl, ⟨hga, hgs.keep (Nat.le_refl _) _ _ (by decide) (by decide)⟩, (if_neg (by decide)).mpr (Kept.refl _ _), put_same _ (show 29 < a'.tmps.size by omega)⟩
        · obtain rfl := Option.some.inj ho
          have e1 : a'.tmps.getD 26 undef = .int .i64 c := hdeps 5 (by decide)
          have e2 : a'.tmps.getD 29 undef = .slice aq y.length cq := hdeps 8 (by decide)
          clear hoth hdeps hdf hts ho
          refine wp_via (fun K' hK => ?_)
          have HK := Lib.hid hK
          clear hK
          go_simp
          refine (HQc.out wx hallx).mono ?_
          rintro e w2 ⟨rfl, hw2⟩
          exact HK.out _ _ ⟨_, rfl, ⟨hga.trans hw2, hgs.keep hw2.size _ _ (by decide) (by decide)⟩, (if_neg (by decide)).mpr hw2, put_same _ (show 30 < a'.tmps.size by omega)⟩
        · obtain rfl := Option.some.inj ho
          clear hoth hdeps hdf hts ho
          refine wp_via (fun K' hK => ?_)
          have HK := Lib.hid hK
          clear hK
          go_simp
          refine HK.out _ _ ⟨_, rfl, ⟨hga.then_alloc _, ?_⟩, (if_neg (by decide)).mpr (Kept.alloc _ _ _), ⟨wx.heap.size, put_same _ (show 11 < a'.tmps.size by omega), hszx, _, _, heap_at _ _ _ rfl⟩⟩
          show SepCmp wo.heap.size (a'.put (some 11) (.pointer (some ⟨wx.heap.size, 0, none⟩))) _
          unfold SepCmp at *
          rw [put_same _ (show 11 < a'.tmps.size by omega), put_other _ (show (11 : Nat) ≠ 12 by decide)]
          have hnew : ∀ b : Nat, (Value.pointer (some ⟨wx.heap.size, 0, none⟩)) = .pointer (some ⟨b, 0, none⟩) → b = wx.heap.size := fun b h => by injection h with h; injection h with h; injection h with h; exact h.symm
          refine ⟨fun b hb => (by have := hnew b hb; simp; omega), fun b hb => (by have := hgs.2.1 b hb; simp; omega), fun b b' hb hb' _ _ => (by have h1 := hnew b hb; have h2 := hgs.2.1 b' hb'; omega)⟩
        · obtain rfl := Option.some.inj ho
          clear hoth hdeps hdf hts ho
          refine wp_via (fun K' hK => ?_)
          have HK := Lib.hid hK
          clear hK
          go_simp
          refine HK.out _ _ ⟨_, rfl, ⟨hga.then_alloc _, ?_⟩, (if_neg (by decide)).mpr (Kept.alloc _ _ _), ⟨wx.heap.size, put_same _ (show 12 < a'.tmps.size by omega), hszx, heap_at _ _ _ rfl⟩⟩
          show SepCmp wo.heap.size (a'.put (some 12) (.pointer (some ⟨wx.heap.size, 0, none⟩))) _
          unfold SepCmp at *
          rw [put_same _ (show 12 < a'.tmps.size by omega), put_other _ (show (12 : Nat) ≠ 11 by decide)]
          have hnew : ∀ b : Nat, (Value.pointer (some ⟨wx.heap.size, 0, none⟩)) = .pointer (some ⟨b, 0, none⟩) → b = wx.heap.size := fun b h => by injection h with h; injection h with h; injection h with h; exact h.symm
          refine ⟨fun b hb => (by have := hgs.1 b hb; simp; omega), fun b hb => (by have := hnew b hb; simp; omega), fun b b' hb hb' _ _ => (by have h1 := hnew b' hb'; have h2 := hgs.1 b hb; omega)⟩
        · obtain rfl := Option.some.inj ho
          obtain ⟨b1, e1, hb1, c0, c1, hbl⟩ : DCmp c (.map (some mb)) (.slice ap x.length cp) (.slice aq y.length cq) (.agg #[.int .i64 xn, .int .i64 xd]) (.agg #[.int .i64 yn, .int .i64 yd]) p q wo.heap.size #[.int .i64 xn, .int .i64 xd] 10 a' wx := hdeps 10 (by decide)
          have e2 : a'.tmps.getD 25 undef = .agg #[.int .i64 xn, .int .i64 xd] := hdeps 4 (by decide)
          have k0 := cell_at (i := 0) hbl rfl
          have k1 := cell_at (i := 1) hbl rfl
          have z0 := frozen_at (i := 0) hbl
          have z1 := frozen_at (i := 1) hbl
          have hfin := box2' hbl (.int .i64 xn) (.int .i64 xd)
          have hbw : b1 < wx.heap.size := (Array.getElem?_eq_some_iff.1 hbl).1
          have HF := Lib.hid hfin
          clear hfin hbl
          clear hoth hdeps hdf hts ho
          refine wp_via (fun K' hK => ?_)
          have HK := Lib.hid hK
          clear hK
          go_simp
          refine HK.out _ _ ⟨undef, rfl, ⟨?_, ?_⟩, ?_, ?_⟩
          · exact (hga.then_setNew _ _ (by dsimp only; omega)).then_setNew _ _ (by dsimp only; omega)
          · exact hgs.keep (by simp [World.setCell]) none undef (by decide) (by decide)
          · refine (if_pos rfl).mpr ⟨b1, e1, hb1, ?_, .int .i64 xn, .int .i64 xd, HF.out⟩
            exact ((Kept.refl _ _).then_setCell _ _ (by simp)).then_setCell _ _ (by simp)
          · exact ⟨b1, e1, hb1, HF.out⟩
      · intro wx a' hg hsz hd
        obtain ⟨hga, hgs⟩ := hg
        have hallx := hall.trans hga
        have e21 : a'.tmps.getD 21 undef = .int .i64 c := hd 0 (by decide)
        have e22 : a'.tmps.getD 22 undef = .map (some mb) := hd 1 (by decide)
        have e23 : a'.tmps.getD 23 undef = .string p := hd 2 (by decide)
        have e24 : a'.tmps.getD 24 undef = .slice ap x.length cp := hd 3 (by decide)
        have e25 : a'.tmps.getD 25 undef = .agg #[.int .i64 xn, .int .i64 xd] := hd 4 (by decide)
        have e26 : a'.tmps.getD 26 undef = .int .i64 c := hd 5 (by decide)
        have e27 : a'.tmps.getD 27 undef = .map (some mb) := hd 6 (by decide)
        have e28 : a'.tmps.getD 28 undef = .string q := hd 7 (by decide)
        have e29 : a'.tmps.getD 29 undef = .slice aq y.length cq := hd 8 (by decide)
        have e30 : a'.tmps.getD 30 undef = .agg #[.int .i64 yn, .int .i64 yd] := hd 9 (by decide)
        obtain ⟨b1, e11, hb1, hbl1⟩ : DCmp c (.map (some mb)) (.slice ap x.length cp) (.slice aq y.length cq) (.agg #[.int .i64 xn, .int .i64 xd]) (.agg #[.int .i64 yn, .int .i64 yd]) p q wo.heap.size #[.int .i64 xn, .int .i64 xd] 12 a' wx := hd 12 (by decide)
        obtain ⟨b2, e12, hb2, hbl2⟩ : DCmp c (.map (some mb)) (.slice ap x.length cp) (.slice aq y.length cq) (.agg #[.int .i64 xn, .int .i64 xd]) (.agg #[.int .i64 yn, .int .i64 yd]) p q wo.heap.size #[.int .i64 xn, .int .i64 xd] 11 a' wx := hd 11 (by decide)
        have hne := hgs.2.2 b1 b2 e11 e12 hb1 hb2
        rw [show dsts _ 13 = [21, 22, 23, 24, 25, 26, 27, 28, 29, 30, 11, 12] from by kernel_rfl]
        simp only [List.map_cons, List.map_nil, puts, Act.put, e21, e22, e23, e24, e25, e26, e27, e28, e29, e30, e11, e12, List.drop_succ_cons, List.drop_zero]
        have k10 := cell_at (i := 0) hbl1 rfl
        have k11 := cell_at (i := 1) hbl1 rfl
        have k20 := cell_at (i := 0) hbl2 rfl
        have k21 := cell_at (i := 1) hbl2 rfl
        have z0 := frozen_at (i := 0) hbl2
        have z1 := frozen_at (i := 1) hbl2
        have hne2 : b2 ≠ b1 := fun e => hne e.symm
        have hl1 : b1 < wx.heap.size := (Array.getElem?_eq_some_iff.1 hbl1).1
        have hl2 : b2 < wx.heap.size := (Array.getElem?_eq_some_iff.1 hbl2).1
        have hnew : w.heap.size ≤ b2 := by have := hall.size; omega
        clear hd e21 e22 e23 e24 e25 e26 e27 e28 e29 e30 e11 e12 hgs hsz hbl1 hbl2 hga
        by_cases hb : cmpI (yn * xd) (xn * yd) = 0
        · have hn := Lib.hid (HA.out.next Hy.out (by rw [HB.out]; exact hb))
          have hd0 : (cmpI (yn * xd) (xn * yd) != 0) = false := by simpa using hb
          clear hb
          go_wp2_with fail
          refine (compareI_any _ _ _).mono ?_
          rintro e w' ⟨rfl, rfl⟩
          go_wp2_with fail
          go_roundw
          case rel => exact ⟨k + 1, by omega, by go_num, hn.out, (hallx.then_setNew _ _ hnew).then_setNew _ _ hnew, fun b h => (by injection h with h; injection h with h; injection h with h; simp [World.setCell]; omega), fun b h => (by injection h with h; injection h with h; injection h with h; simp [World.setCell]; omega)⟩
          case measure => simp [intOf]; omega
        · have hf := Lib.hid (HA.out.hit Hy.out (by rw [HB.out]; exact hb))
          have hd0 : (cmpI (yn * xd) (xn * yd) != 0) = true := by simpa using hb
          clear hb
          go_wp2_with fail
          refine (compareI_any _ _ _).mono ?_
          rintro e w' ⟨rfl, rfl⟩
          go_wp2_with fail
          go_ret
          exact ⟨ret_int' (by rw [hf.out, HB.out]), (hallx.then_setNew _ _ hnew).then_setNew _ _ hnew⟩
    · have hd : decide ((k : Int) < (len : Int)) = false := by simp; omega
      have hf := Lib.hid (HA.out.done (by rw [Hlen.out]; omega))
      go_wp2_with fail
      refine (Tryz.strings_Compare p q _).mono ?_
      rintro e w' ⟨rfl, rfl⟩
      go_wp2_with fail
      go_ret
      exact ⟨ret_int' hf.out.symm, hall⟩
end Go.Proofs.YtiecaedgphdfdaaGreatDoor
