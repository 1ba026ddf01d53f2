/- PlacesFault. -/
import Derived.Test.YtgobnlgmbplggaaGreatDoorP7
import Derived.Deep.RegionHeld3
import Derived.Test.YtgobnlgmbplggaaGreatDoorWj
namespace Go.Proofs.YtgobnlgmbplggaaGreatDoor
open Go.RowKit

/-- The key of the one before. -/
def lastK {α : Type} (key : α → ByteArray) (l : List α) (k : Nat) : ByteArray := match prevAt l k with | some p => key p | none => ⟨#[]⟩
theorem leB_nil {s : ByteArray} (h : s.size ≠ 0) : leB s ⟨#[]⟩ = false := by
  unfold leB
  have e0 : (⟨#[]⟩ : ByteArray).toList = [] := by rw [Go.ByteArray.toList_eq]
  rw [e0]
  have h1 : (s.toList == []) = false := by rw [beq_eq_false_iff_ne]; exact toList_ne h
  rw [h1, Bool.or_false]
  cases s.toList <;> rfl
theorem lastK_up {α : Type} (key : α → ByteArray) (l : List α) (k : Nat) {s : ByteArray} (h : s.size ≠ 0) : leB s (lastK key l k) = notUp ((prevAt l k).map key) s := by
  unfold lastK
  cases prevAt l k with
  | none => exact leB_nil h
  | some p => rfl
theorem lastK_next {α : Type} {key : α → ByteArray} {l : List α} {k : Nat} {x : α} (h : l[k]? = some x) : lastK key l (k + 1) = key x := by rw [lastK, prevAt_succ h]
theorem plcE_order' {l : List Plc} {k : Nat} {x : Plc} (h : isKeyB x.key = true) (h2 : leB x.key (lastK (·.key) l k) = true) : plcE (prevAt l k) x = 7 := by
  rw [lastK_up _ _ _ (isKeyB_ne h)] at h2
  rw [plcE, if_neg (by rw [h]; decide), if_pos h2]
set_option maxRecDepth 100000 in
set_option maxHeartbeats 12800000 in
theorem placesFaultR_any (a : Option Addr) (len cap : Nat) (l : List Plc) (w : World) (hs : Sl RPlc 2 (fun _ => True) w a len l) (hl : len ≤ 100000) :
    Calls Tryz.prog 25 #[.slice a len cap] w fun e w' => e = .returned (.int .i64 (placesF l)) ∧ All w w' := by
  have HLEN := Lib.hid hs.len
  have HSM := Lib.hid (sl_mem hs)
  by_cases hbig : 200 < len
  · have hd0 : decide ((200 : Int) < (len : Int)) = true := by simp; omega
    have HF := Lib.hid (placesF_large (l := l) (by have := HLEN.out; omega))
    clear hs
    go_enter Tryz.func25, Tryz.ntmps25
    go_wp2_with fail
    go_ret
    exact ⟨ret_int' HF.out.symm, Kept.refl _ _⟩
  have hd0 : decide ((200 : Int) < (len : Int)) = false := by simp; omega
  have HBIG := Lib.hid (show ¬ 200 < l.length from by have := HLEN.out; omega)
  have HS := Lib.hid (fun (wx : World) (k : All w wx) => hs.keep RPlc.ok k)
  clear hs
  go_enter Tryz.func25, Tryz.ntmps25
  go_wp2_with fail
  go_loopw [3, 15] (fun t i wr => ∃ (k : Nat) (s : ByteArray), k ≤ len ∧ t = .string s ∧ i = .int .i64 k ∧ s = lastK (·.key) l k ∧ s.size ≤ 1000000 ∧ ScanAt plcE l k ∧ All w wr) (fun _ i _ => len - (intOf i).toNat)
  case atStart => exact ⟨0, _, Nat.zero_le _, rfl, rfl, rfl, by decide, ScanAt.zero _ _, Kept.refl _ _⟩
  case round =>
    obtain ⟨k, s, hk, rfl, rfl, hsl, hsz, hat, hall⟩ := hrel
    obtain ⟨wo, rfl⟩ : ∃ wo : World, wo = wr := ⟨_, rfl⟩
    have HSL := Lib.hid hsl
    clear hsl
    by_cases hlt : k < len
    · obtain ⟨b, off, x, ha, -, c0, c1, ⟨hz1, hz2⟩, hx, -⟩ := (HS.out _ hall).atPlc hlt
      subst ha
      have HX := Lib.hid hx
      clear hx
      have hb9 := heap_at wo (.cells #[.string x.key, .string x.parent] 91) _ rfl
      obtain ⟨xb, hxb⟩ : ∃ z, z = wo.heap.size := ⟨_, rfl⟩
      have HXB := Lib.hid hxb
      rw [← hxb] at hb9
      have hall' : All w (wo.alloc (.cells #[.string x.key, .string x.parent] 91)) := hall.then_alloc _
      clear hxb hall
      go_upto_region 7 with fail
      simp only [← HXB.out]
      generalize wo.alloc (.cells #[.string x.key, .string x.parent] 91) = w9 at *
      have hall := hall'
      have HB9 := Lib.hid hb9
      have e0 := cell_at (i := 0) hb9 rfl
      have e1 := cell_at (i := 1) hb9 rfl
      clear hb9 c0 c1 hall'
      cases hkey : isKeyB x.key with
      | false =>
        have HF := Lib.hid (placesF_scan HBIG.out (hat.bad HX.out (plcE_name hkey) (by decide)) (by decide))
        clear hat
        go_wp2_with fail
        refine (key_any x.key _ hz1).mono ?_
        rintro e w' ⟨rfl, hkw⟩
        rw [hkey]
        have hall := Kept.trans (show All w _ from (by repeat (first | exact hall | refine Kept.then_drew ?_ | refine Kept.then_drewN ?_ _ | refine Kept.then_alloc ?_ _))) hkw
        go_wp2_with fail
        go_ret
        exact ⟨ret_int' HF.out.symm, (by repeat (first | exact hall | refine Kept.then_drew ?_ | refine Kept.then_drewN ?_ _ | refine Kept.then_alloc ?_ _))⟩
      | true =>
        have hnu := lastK_up (·.key) l k (isKeyB_ne hkey)
        rw [← HSL.out] at hnu
        cases hle : leB x.key s with
        | true =>
          have HF := Lib.hid (placesF_scan HBIG.out (hat.bad HX.out (plcE_order' hkey (by rw [← HSL.out]; exact hle)) (by decide)) (by decide))
          have hle' : (Op.bytesLess x.key.toList s.toList || x.key.toList == s.toList) = true := hle
          clear hat hle hnu
          go_wp2_with fail
          refine (key_any x.key _ hz1).mono ?_
          rintro e w' ⟨rfl, hkw⟩
          rw [hkey]
          have hall := Kept.trans (show All w _ from (by repeat (first | exact hall | refine Kept.then_drew ?_ | refine Kept.then_drewN ?_ _ | refine Kept.then_alloc ?_ _))) hkw
          have e0 := hkw.cell e0 trivial
          go_wp2_with fail
          go_ret
          exact ⟨ret_int' HF.out.symm, (by repeat (first | exact hall | refine Kept.then_drew ?_ | refine Kept.then_drewN ?_ _ | refine Kept.then_alloc ?_ _))⟩
        | false =>
          have hle' : (Op.bytesLess x.key.toList s.toList || x.key.toList == s.toList) = false := hle
          rw [hle] at hnu
          by_cases hp0 : x.parent.size = 0
          · have hpe : (x.parent.toList == []) = true := by rw [toList_nil hp0]; rfl
            have HN := Lib.hid (hat.next HX.out (plcE_ok hkey hnu.symm (Or.inl hp0)))
            clear hat hp0 hnu hle
            go_wp2_with fail
            refine (key_any x.key _ hz1).mono ?_
            rintro e w' ⟨rfl, hkw⟩
            rw [hkey]
            have hall := Kept.trans (show All w _ from (by repeat (first | exact hall | refine Kept.then_drew ?_ | refine Kept.then_drewN ?_ _ | refine Kept.then_alloc ?_ _))) hkw
            have e0 := hkw.cell e0 trivial
            have e1 := hkw.cell e1 trivial
            go_wp2_with fail
            go_roundw
            case rel => exact ⟨k + 1, _, by omega, rfl, by go_num, (lastK_next HX.out).symm, hz1, HN.out, (by repeat (first | exact hall | refine Kept.then_drew ?_ | refine Kept.then_drewN ?_ _ | refine Kept.then_alloc ?_ _))⟩
            case measure => simp [intOf]; omega
          · have hpe : (x.parent.toList == []) = false := by rw [beq_eq_false_iff_ne]; exact toList_ne hp0
            cases hpk : isKeyB x.parent with
            | false =>
              have HF := Lib.hid (placesF_scan HBIG.out (hat.bad HX.out (plcE_bad hkey hnu.symm hp0 hpk) (by decide)) (by decide))
              clear hat hp0 hnu hle
              go_wp2_with fail
              refine (key_any x.key _ hz1).mono ?_
              rintro e w' ⟨rfl, hkw⟩
              rw [hkey]
              have hall := Kept.trans (show All w _ from (by repeat (first | exact hall | refine Kept.then_drew ?_ | refine Kept.then_drewN ?_ _ | refine Kept.then_alloc ?_ _))) hkw
              have e0 := hkw.cell e0 trivial
              have e1 := hkw.cell e1 trivial
              go_wp2_with fail
              refine (key_any x.parent _ hz2).mono ?_
              rintro e w'' ⟨rfl, hkw2⟩
              rw [hpk]
              have hall := Kept.trans (show All w _ from (by repeat (first | exact hall | refine Kept.then_drew ?_ | refine Kept.then_drewN ?_ _ | refine Kept.then_alloc ?_ _))) hkw2
              go_wp2_with fail
              go_ret
              exact ⟨ret_int' HF.out.symm, (by repeat (first | exact hall | refine Kept.then_drew ?_ | refine Kept.then_drewN ?_ _ | refine Kept.then_alloc ?_ _))⟩
            | true =>
              have HN := Lib.hid (hat.next HX.out (plcE_ok hkey hnu.symm (Or.inr hpk)))
              clear hat hp0 hnu hle
              go_wp2_with fail
              refine (key_any x.key _ hz1).mono ?_
              rintro e w' ⟨rfl, hkw⟩
              rw [hkey]
              have hall := Kept.trans (show All w _ from (by repeat (first | exact hall | refine Kept.then_drew ?_ | refine Kept.then_drewN ?_ _ | refine Kept.then_alloc ?_ _))) hkw
              have e0 := hkw.cell e0 trivial
              have e1 := hkw.cell e1 trivial
              go_wp2_with fail
              refine (key_any x.parent _ hz2).mono ?_
              rintro e w'' ⟨rfl, hkw2⟩
              rw [hpk]
              have hall := Kept.trans (show All w _ from (by repeat (first | exact hall | refine Kept.then_drew ?_ | refine Kept.then_drewN ?_ _ | refine Kept.then_alloc ?_ _))) hkw2
              have e0 := hkw2.cell e0 trivial
              go_wp2_with fail
              go_roundw
              case rel => exact ⟨k + 1, _, by omega, rfl, by go_num, (lastK_next HX.out).symm, hz1, HN.out, (by repeat (first | exact hall | refine Kept.then_drew ?_ | refine Kept.then_drewN ?_ _ | refine Kept.then_alloc ?_ _))⟩
              case measure => simp [intOf]; omega
    · have hd : decide ((k : Int) < (len : Int)) = false := by simp; omega
      have hsc := hat.ok (by have := HLEN.out; omega)
      have HSC := Lib.hid hsc
      have HOK := Lib.hid (plc_ok hsc)
      clear hat hsc
      go_wp2_with fail
      go_loopw [44] (fun i wr => ∃ k : Nat, k ≤ len ∧ i = .int .i64 k ∧ (l.take k).any (fun p => decide (p.parent.size ≠ 0) && !hasP l p.parent) = false ∧ All w wr) (fun i _ => len - (intOf i).toNat)
      case atStart => exact ⟨0, Nat.zero_le _, rfl, rfl, hall⟩
      case round =>
        clear hall hd hk hlt
        obtain ⟨k, hk, rfl, hno, hall⟩ := hrel
        obtain ⟨wo, rfl⟩ : ∃ wo : World, wo = wr := ⟨_, rfl⟩
        by_cases hlt : k < len
        · obtain ⟨b, off, x, ha, -, c0, c1, ⟨hz1, hz2⟩, hx, -⟩ := (HS.out _ hall).atPlc hlt
          have hsl := HS.out _ (hall.then_alloc (.cells #[.string x.key, .string x.parent] 91))
          have HPA := Lib.hid (placeAt_any a len cap l x.parent _ hsl (by omega))
          subst ha
          have HX := Lib.hid hx
          clear hx hsl
          have hng := placeAtF_neg l x.parent
          by_cases hp0 : x.parent.size = 0
          · have hpe : (x.parent.toList == []) = true := by rw [toList_nil hp0]; rfl
            have HN := Lib.hid (any_next hno HX.out (by simp [hp0]))
            clear hno hp0 hng
            go_wp2_with fail
            go_roundw
            case rel => exact ⟨k + 1, by omega, by go_num, HN.out, (by repeat (first | exact hall | refine Kept.then_drew ?_ | refine Kept.then_drewN ?_ _ | refine Kept.then_alloc ?_ _))⟩
            case measure => simp [intOf]; omega
          · have hpe : (x.parent.toList == []) = false := by rw [beq_eq_false_iff_ne]; exact toList_ne hp0
            obtain ⟨pz, hpz⟩ : ∃ z, z = placeAtF l x.parent := ⟨_, rfl⟩
            rw [← hpz] at HPA hng
            clear hpz
            cases hhp : hasP l x.parent with
            | false =>
              have HF := Lib.hid (placesF_none HBIG.out HSC.out (any_hit HX.out (by simp [hp0, hhp])))
              have hdn : decide (pz < 0) = true := by rw [hng, hhp]; rfl
              clear hno hp0 hhp hng
              go_wp2_with fail
              refine HPA.out.mono ?_
              rintro e w4 ⟨rfl, hw4⟩
              go_wp2_with fail
              go_ret
              exact ⟨ret_int' HF.out.symm, (hall.then_alloc _).trans hw4⟩
            | true =>
              have HN := Lib.hid (any_next hno HX.out (by simp [hhp]))
              have hdn : decide (pz < 0) = false := by rw [hng, hhp]; rfl
              clear hno hp0 hhp hng
              go_wp2_with fail
              refine HPA.out.mono ?_
              rintro e w4 ⟨rfl, hw4⟩
              go_wp2_with fail
              go_roundw
              case rel => exact ⟨k + 1, by omega, by go_num, HN.out, (hall.then_alloc _).trans hw4⟩
              case measure => simp [intOf]; omega
        · have hd : decide ((k : Int) < (len : Int)) = false := by simp; omega
          have HANY := Lib.hid (show (l.any fun p => decide (p.parent.size ≠ 0) && !hasP l p.parent) = false from by rw [List.take_of_length_le (by have := HLEN.out; omega)] at hno; exact hno)
          clear hno
          go_wp2_with fail
          go_loopw [61] (fun i wr => ∃ k : Nat, k ≤ len ∧ i = .int .i64 k ∧ (l.take k).any (fun p => cycB l p.key) = false ∧ All w wr) (fun i _ => len - (intOf i).toNat)
          case atStart => exact ⟨0, Nat.zero_le _, rfl, rfl, hall⟩
          case round =>
            clear hall hd hk hlt
            obtain ⟨k, hk, rfl, hno, hall⟩ := hrel
            obtain ⟨wo, rfl⟩ : ∃ wo : World, wo = wr := ⟨_, rfl⟩
            by_cases hlt : k < len
            · obtain ⟨b, off, x, ha, -, c0, c1, ⟨hz1, hz2⟩, hx, -⟩ := (HS.out _ hall).atPlc hlt
              have HAB := Lib.hid (fun (wx : World) (kx : All w wx) => aboveOf_any a len cap l x.key wx (HS.out _ kx) hl hz1)
              have HCY := Lib.hid (above_cyc HOK.out (HOK.out.some_ x (List.mem_of_getElem? hx)))
              have HUL := Lib.hid (show (upL l x.key).length ≤ 1000000 from by have := aboveL_len (l := l) (l.length + 1) x.key; have := HLEN.out; show (aboveL l (l.length + 1) x.key).length ≤ 1000000; omega)
              subst ha
              have HX := Lib.hid hx
              clear hx
              have hb9 := heap_at wo (.cells #[.string x.key, .string x.parent] 91) _ rfl
              obtain ⟨xb, hxb⟩ : ∃ z, z = wo.heap.size := ⟨_, rfl⟩
              have HXB := Lib.hid hxb
              rw [← hxb] at hb9
              have hall' : All w (wo.alloc (.cells #[.string x.key, .string x.parent] 91)) := hall.then_alloc _
              clear hxb hall
              go_upto_region 24 with fail
              simp only [← HXB.out]
              generalize wo.alloc (.cells #[.string x.key, .string x.parent] 91) = w9 at *
              have hall := hall'
              have HB9 := Lib.hid hb9
              have e0 := cell_at (i := 0) hb9 rfl
              have e1 := cell_at (i := 1) hb9 rfl
              clear hb9 c0 c1 hall'
              obtain ⟨ul, hul⟩ : ∃ z, z = upL l x.key := ⟨_, rfl⟩
              rw [← hul] at HAB HUL
              obtain ⟨cy, hcy⟩ : ∃ z, z = memB x.key ul := ⟨_, rfl⟩
              have HCC := Lib.hid (show cy = cycB l x.key from by rw [hcy, hul]; exact HCY.out)
              have HCT := Lib.hid (fun (wx : World) (e : Ending) (h : StrsOut ul wx e wx) => True.intro)
              have hcyH := Lib.hid hcy
              clear hul hcy HCY HCT
              go_cut [71] (fun v wx => v = .bool cy ∧ All w wx)
              case first =>
                go_region_held3 (fun w' => w'.cell? ⟨xb, 0, none⟩ = some (.string x.key)) (first | exact e0 | exact d0 | go_keep) (first | (go_at_call 31; refine (HAB.out _ (by repeat (first | exact hall | refine Kept.then_drew ?_ | refine Kept.then_drewN ?_ _ | refine Kept.then_alloc ?_ _))).mono ?_; rintro e wa ha; obtain ⟨av, cv, rfl, hsl, hwa⟩ := ha.slice; have d0 := hwa.cell e0 trivial; have hallA := Kept.trans (show All w _ from (by repeat (first | exact hall | refine Kept.then_drew ?_ | refine Kept.then_drewN ?_ _ | refine Kept.then_alloc ?_ _))) hwa) | (go_at_call 80; refine (contains_any _ _ _ ul x.key _ (hsl.keep RStr.ok (by repeat (first | exact Kept.refl _ _ | refine Kept.then_drew ?_ | refine Kept.then_drewN ?_ _ | refine Kept.then_alloc ?_ _))) HUL.out).mono ?_; rintro e wb ⟨rfl, hh⟩; subst hh))
                go_wp2_with fail
                go_meet
                exact ⟨by rw [hcyH.out], by repeat (first | exact hallA | refine Kept.then_drew ?_ | refine Kept.then_drewN ?_ _ | refine Kept.then_alloc ?_ _)⟩
              case rest =>
                obtain ⟨rfl, hall⟩ := hcut
                obtain ⟨wz, rfl⟩ : ∃ z : World, z = wc := ⟨_, rfl⟩
                cases cy with
                | true =>
                  have HF := Lib.hid (placesF_loop HBIG.out HSC.out HANY.out (any_hit HX.out HCC.out.symm))
                  clear hno
                  go_wp2_with fail
                  go_ret
                  exact ⟨ret_int' HF.out.symm, hall⟩
                | false =>
                  have HN := Lib.hid (any_next hno HX.out HCC.out.symm)
                  clear hno
                  go_wp2_with fail
                  go_roundw
                  case rel => exact ⟨k + 1, by omega, by go_num, HN.out, hall⟩
                  case measure => simp [intOf]; omega
            · have hd : decide ((k : Int) < (len : Int)) = false := by simp; omega
              have HF := Lib.hid (placesF_ok HBIG.out HSC.out HANY.out (by rw [List.take_of_length_le (by have := HLEN.out; omega)] at hno; exact hno))
              clear hno
              go_wp2_with fail
              go_ret
              exact ⟨ret_int' HF.out.symm, hall⟩
end Go.Proofs.YtgobnlgmbplggaaGreatDoor

/- isLine and named answer lineB. -/
namespace Go.Proofs.YtgobnlgmbplggaaGreatDoor
open Go.RowKit

noncomputable def lineB (s : ByteArray) (most : Int) : Bool := !(decide (s.size = 0)) && plainB s && decide ((s.size : Int) ≤ most)


theorem named_any (s : ByteArray) (most : Int) (w : World) (hs : s.size ≤ 1000000) (hg : Glob w) :
    Calls Tryz.prog 185 #[.string s, .int .i64 most] w fun e w' => e = .returned (.bool (lineB s most)) ∧ All w w' := by
  have HP := Lib.hid (plain_any s w hs hg)
  clear hg
  by_cases h0 : s.size = 0
  · have he : s.toList = [] := toList_nil h0
    have hd : s.toList.isEmpty = true := by simp [he]
    have hl : lineB s most = false := by unfold lineB; simp [h0]
    rw [hl]
    clear hl h0
    go_enter Tryz.func185, Tryz.ntmps185
    go_wp2_with fail
    go_ret
    exact ⟨rfl, Kept.refl _ _⟩
  · have he : s.toList ≠ [] := toList_ne h0
    have hd : s.toList.isEmpty = false := by simpa using he
    cases hp : plainB s with
    | false =>
      have hl : lineB s most = false := by unfold lineB; simp [hp]
      rw [hl]
      have Hp := Lib.hid hp
      clear hl hp h0
      go_enter Tryz.func185, Tryz.ntmps185
      go_wp2_with fail
      refine HP.out.mono ?_
      rintro e w1 ⟨rfl, hw1⟩
      rw [Hp.out]
      go_wp2_with fail
      go_ret
      exact ⟨rfl, hw1⟩
    | true =>
      by_cases hle : (s.size : Int) ≤ most
      · have hl : lineB s most = true := by unfold lineB; simp [hp, h0, hle]
        have d1 : decide ((s.size : Int) ≤ most) = true := by simpa using hle
        rw [hl]
        have Hp := Lib.hid hp
        clear hl hp h0
        go_enter Tryz.func185, Tryz.ntmps185
        go_wp2_with fail
        refine HP.out.mono ?_
        rintro e w1 ⟨rfl, hw1⟩
        rw [Hp.out]
        go_wp2_with fail
        go_ret
        exact ⟨rfl, hw1⟩
      · have hl : lineB s most = false := by unfold lineB; simp [hle]
        have d1 : decide ((s.size : Int) ≤ most) = false := by simpa using hle
        rw [hl]
        have Hp := Lib.hid hp
        clear hl hp h0
        go_enter Tryz.func185, Tryz.ntmps185
        go_wp2_with fail
        refine HP.out.mono ?_
        rintro e w1 ⟨rfl, hw1⟩
        rw [Hp.out]
        go_wp2_with fail
        go_ret
        exact ⟨rfl, hw1⟩
end Go.Proofs.YtgobnlgmbplggaaGreatDoor

/- namesFault of the program. -/
namespace Go.Proofs.YtgobnlgmbplggaaGreatDoor
open Go.RowKit

section
variable {l : List Nam} {k : Nat} {x : Nam}
theorem namB_0 {s : ByteArray} (h : s.size = 0) : namB s = false := by rw [namB, decide_eq_false (by simpa using h)]; rfl
theorem namB_p {s : ByteArray} (h : plainB s = false) : namB s = false := by rw [namB, h, Bool.and_false]; rfl
theorem namB_l {s : ByteArray} (h : 100 < s.size) : namB s = false := by rw [namB, decide_eq_false (show ¬ s.size ≤ 100 by omega), Bool.and_false]
theorem namB_ok {s : ByteArray} (h : s.size ≠ 0) (h1 : plainB s = true) (h2 : ¬ 100 < s.size) : namB s = true := by rw [namB, decide_eq_true h, h1, decide_eq_true (show s.size ≤ 100 by omega)]; rfl
def namUp (p : Option Nam) (x : Nam) : Bool := match p with | none => decide (x.frm ≠ 0) | some q => decide (x.frm ≤ q.frm)
theorem namE_eq (p : Option Nam) (x : Nam) : namE p x = if namB x.name = false then 3 else if namUp p x = true then 7 else if 4000 < x.frm then 1 else 0 := by
  cases p <;> rfl
theorem namE_name {p : Option Nam} (h : namB x.name = false) : namE p x = 3 := by rw [namE_eq, if_pos h]
theorem namE_up {p : Option Nam} (h : namB x.name = true) (h2 : namUp p x = true) : namE p x = 7 := by rw [namE_eq, if_neg (by rw [h]; decide), if_pos h2]
theorem namE_late {p : Option Nam} (h : namB x.name = true) (h2 : namUp p x = false) (h3 : 4000 < x.frm) : namE p x = 1 := by rw [namE_eq, if_neg (by rw [h]; decide), if_neg (by rw [h2]; decide), if_pos h3]
theorem namE_ok {p : Option Nam} (h : namB x.name = true) (h2 : namUp p x = false) (h3 : ¬ 4000 < x.frm) : namE p x = 0 := by rw [namE_eq, if_neg (by rw [h]; decide), if_neg (by rw [h2]; decide), if_neg h3]
theorem namesF_none (h : l.length = 0) : namesF l = 3 := by rw [namesF, if_pos h]
theorem namesF_large (h : 10 < l.length) : namesF l = 2 := by rw [namesF, if_neg (by omega), if_pos h]
theorem namesF_scan (h0 : l.length ≠ 0) (h : ¬ 10 < l.length) : namesF l = scanF namE none l := by rw [namesF, if_neg h0, if_neg h]
end
set_option maxRecDepth 100000 in
set_option maxHeartbeats 12800000 in
theorem namesFault_any (a : Option Addr) (len cap : Nat) (l : List Nam) (w : World) (hs : Sl RNam 2 (fun _ => True) w a len l) (hl : len ≤ 100000) (hg : Glob w) :
    Calls Tryz.prog 180 #[.slice a len cap] w fun e w' => e = .returned (.int .i64 (namesF l)) ∧ All w w' := by
  have HLEN := Lib.hid hs.len
  by_cases hz0 : len = 0
  · have HF := Lib.hid (namesF_none (l := l) (by have := HLEN.out; omega))
    subst hz0
    clear hs
    go_enter Tryz.func180, Tryz.ntmps180
    go_wp2_with fail
    go_ret
    exact ⟨ret_int' HF.out.symm, Kept.refl _ _⟩
  have hdz : ((len : Int) == 0) = false := by rw [beq_eq_false_iff_ne]; omega
  by_cases hbig : 10 < len
  · have hd0 : decide ((10 : Int) < (len : Int)) = true := by simp; omega
    have HF := Lib.hid (namesF_large (l := l) (by have := HLEN.out; omega))
    clear hs
    go_enter Tryz.func180, Tryz.ntmps180
    go_wp2_with fail
    go_ret
    exact ⟨ret_int' HF.out.symm, Kept.refl _ _⟩
  have hd0 : decide ((10 : Int) < (len : Int)) = false := by simp; omega
  have HSC := Lib.hid (namesF_scan (l := l) (by have := HLEN.out; omega) (by have := HLEN.out; omega))
  have HS := Lib.hid (fun (wx : World) (k : All w wx) => hs.keep RNam.ok k)
  have HG := Lib.hid (fun (wx : World) (k : All w wx) => hg.keep k)
  have hz1 : ¬ len = 0 := hz0
  clear hs hg hz0
  go_enter Tryz.func180, Tryz.ntmps180
  go_wp2_with fail
  go_loopw [13] (fun i wr => ∃ k : Nat, k ≤ len ∧ i = .int .i64 k ∧ ScanAt namE l k ∧ All w wr) (fun i _ => len - (intOf i).toNat)
  case atStart => exact ⟨0, Nat.zero_le _, rfl, ScanAt.zero _ _, Kept.refl _ _⟩
  case round =>
    obtain ⟨k, hk, rfl, hat, hall⟩ := hrel
    obtain ⟨wo, rfl⟩ : ∃ wo : World, wo = wr := ⟨_, rfl⟩
    by_cases hlt : k < len
    · obtain ⟨b, off, x, ha, -, c0, c1, ⟨hx1, hx2⟩, hx, -⟩ := (HS.out _ hall).atNam hlt
      subst ha
      have HX := Lib.hid hx
      clear hx
      have HIP := Lib.hid (fun (wx : World) (kx : All w wx) => isPlain_any x.name wx hx1 (HG.out _ kx))
      have HSK := Lib.hid (fun (wx : World) (kx : All w wx) => HS.out wx kx)
      have hb9 := heap_at wo (.cells #[.string x.name, .int .i64 x.frm] 99) _ rfl
      obtain ⟨xb, hxb⟩ : ∃ z, z = wo.heap.size := ⟨_, rfl⟩
      have HXB := Lib.hid hxb
      rw [← hxb] at hb9
      have hall' : All w (wo.alloc (.cells #[.string x.name, .int .i64 x.frm] 99)) := hall.then_alloc _
      clear hxb hall
      go_upto_region 8 with fail
      simp only [← HXB.out]
      generalize wo.alloc (.cells #[.string x.name, .int .i64 x.frm] 99) = w9 at *
      have hall := hall'
      have e0 := cell_at (i := 0) hb9 rfl
      have e1 := cell_at (i := 1) hb9 rfl
      clear hb9 c0 c1 hall'
      by_cases hn0 : x.name.size = 0
      · have hne : (x.name.toList == []) = true := by rw [toList_nil hn0]; rfl
        have HF := Lib.hid (show namesF l = 3 from by rw [HSC.out]; exact hat.bad HX.out (namE_name (namB_0 hn0)) (by decide))
        clear hat hn0
        go_wp2_with fail
        go_ret
        exact ⟨ret_int' HF.out.symm, (by repeat (first | exact hall | refine Kept.then_drew ?_ | refine Kept.then_drewN ?_ _ | refine Kept.then_alloc ?_ _))⟩
      have hne : (x.name.toList == []) = false := by rw [beq_eq_false_iff_ne]; exact toList_ne hn0
      cases hpl : plainB x.name with
      | false =>
        have HF := Lib.hid (show namesF l = 3 from by rw [HSC.out]; exact hat.bad HX.out (namE_name (namB_p hpl)) (by decide))
        clear hat hn0
        go_wp2_with fail
        refine (HIP.out _ (by repeat (first | exact hall | refine Kept.then_drew ?_ | refine Kept.then_drewN ?_ _ | refine Kept.then_alloc ?_ _))).mono ?_
        rintro e w' ⟨rfl, hkw⟩
        rw [hpl]
        have hall := Kept.trans (show All w _ from (by repeat (first | exact hall | refine Kept.then_drew ?_ | refine Kept.then_drewN ?_ _ | refine Kept.then_alloc ?_ _))) hkw
        have e0 := hkw.cell e0 trivial
        have e1 := hkw.cell e1 trivial
        go_wp2_with fail
        go_ret
        exact ⟨ret_int' HF.out.symm, (by repeat (first | exact hall | refine Kept.then_drew ?_ | refine Kept.then_drewN ?_ _ | refine Kept.then_alloc ?_ _))⟩
      | true =>
      by_cases hn1 : 100 < x.name.size
      · have d1 : decide ((100 : Int) < (x.name.size : Int)) = true := by simp; omega
        have HF := Lib.hid (show namesF l = 3 from by rw [HSC.out]; exact hat.bad HX.out (namE_name (namB_l hn1)) (by decide))
        clear hat hn0
        go_wp2_with fail
        refine (HIP.out _ (by repeat (first | exact hall | refine Kept.then_drew ?_ | refine Kept.then_drewN ?_ _ | refine Kept.then_alloc ?_ _))).mono ?_
        rintro e w' ⟨rfl, hkw⟩
        rw [hpl]
        have hall := Kept.trans (show All w _ from (by repeat (first | exact hall | refine Kept.then_drew ?_ | refine Kept.then_drewN ?_ _ | refine Kept.then_alloc ?_ _))) hkw
        have e0 := hkw.cell e0 trivial
        have e1 := hkw.cell e1 trivial
        go_wp2_with fail
        go_ret
        exact ⟨ret_int' HF.out.symm, (by repeat (first | exact hall | refine Kept.then_drew ?_ | refine Kept.then_drewN ?_ _ | refine Kept.then_alloc ?_ _))⟩
      have d1 : decide ((100 : Int) < (x.name.size : Int)) = false := by simp; omega
      have hnb := namB_ok hn0 hpl hn1
      clear hn0
      rcases k with _ | k
      · by_cases hf0 : x.frm = 0
        · have g0 : (x.frm != 0) = false := by simpa using hf0
          have d4 : decide ((4000 : Int) < x.frm) = false := by simp; omega
          have HN := Lib.hid (hat.next HX.out (namE_ok hnb (by show decide (x.frm ≠ 0) = false; simpa using hf0) (by omega)))
          clear hat hf0
          go_wp2_with fail
          refine (HIP.out _ (by repeat (first | exact hall | refine Kept.then_drew ?_ | refine Kept.then_drewN ?_ _ | refine Kept.then_alloc ?_ _))).mono ?_
          rintro e w' ⟨rfl, hkw⟩
          rw [hpl]
          have hall := Kept.trans (show All w _ from (by repeat (first | exact hall | refine Kept.then_drew ?_ | refine Kept.then_drewN ?_ _ | refine Kept.then_alloc ?_ _))) hkw
          have e0 := hkw.cell e0 trivial
          have e1 := hkw.cell e1 trivial
          go_upto_region 10 with fail
          go_quiet (fail)
          go_wp2_with fail
          go_roundw
          case rel => exact ⟨1, by omega, rfl, HN.out, (by repeat (first | exact hall | refine Kept.then_drew ?_ | refine Kept.then_drewN ?_ _ | refine Kept.then_alloc ?_ _))⟩
          case measure => simp [intOf]; omega
        · have g0 : (x.frm != 0) = true := by simpa using hf0
          have HF := Lib.hid (show namesF l = 7 from by rw [HSC.out]; exact hat.bad HX.out (namE_up hnb (by show decide (x.frm ≠ 0) = true; simpa using hf0)) (by decide))
          clear hat hf0
          go_wp2_with fail
          refine (HIP.out _ (by repeat (first | exact hall | refine Kept.then_drew ?_ | refine Kept.then_drewN ?_ _ | refine Kept.then_alloc ?_ _))).mono ?_
          rintro e w' ⟨rfl, hkw⟩
          rw [hpl]
          have hall := Kept.trans (show All w _ from (by repeat (first | exact hall | refine Kept.then_drew ?_ | refine Kept.then_drewN ?_ _ | refine Kept.then_alloc ?_ _))) hkw
          have e0 := hkw.cell e0 trivial
          have e1 := hkw.cell e1 trivial
          go_upto_region 10 with fail
          go_quiet (fail)
          go_wp2_with fail
          go_ret
          exact ⟨ret_int' HF.out.symm, (by repeat (first | exact hall | refine Kept.then_drew ?_ | refine Kept.then_drewN ?_ _ | refine Kept.then_alloc ?_ _))⟩
      · have f1 : (0 : Int) ≤ (k : Int) := by omega
        have f2 : (k : Int) < (len : Int) := by omega
        have f3 : k < len := by omega
        have f6 : (((k : Int) + 1) == 0) = false := by rw [beq_eq_false_iff_ne]; omega
        have f4 : IntKind.i64.wrap (k : Int) = (k : Int) := IntWalk.i64_in _ (by omega)
        obtain ⟨b', off', y, ha', -, -, d0, ⟨-, -⟩, hy, -⟩ := (HSK.out _ hall).atNam (k := k) f3
        cases ha'
        have HD := Lib.hid d0
        have hpv := Lib.hid (show prevAt l (k + 1) = some y from prevAt_succ hy)
        clear hy d0
        by_cases hup : x.frm ≤ y.frm
        · have g0 : decide (x.frm ≤ y.frm) = true := by simpa using hup
          have he : namE (prevAt l (k + 1)) x = 7 := by rw [hpv.out]; exact namE_up hnb g0
          have HF := Lib.hid (show namesF l = 7 from by rw [HSC.out]; exact hat.bad HX.out he (by decide))
          clear hat hup he
          go_wp2_with fail
          refine (HIP.out _ (by repeat (first | exact hall | refine Kept.then_drew ?_ | refine Kept.then_drewN ?_ _ | refine Kept.then_alloc ?_ _))).mono ?_
          rintro e w' ⟨rfl, hkw⟩
          rw [hpl]
          have hall := Kept.trans (show All w _ from (by repeat (first | exact hall | refine Kept.then_drew ?_ | refine Kept.then_drewN ?_ _ | refine Kept.then_alloc ?_ _))) hkw
          have e0 := hkw.cell e0 trivial
          have e1 := hkw.cell e1 trivial
          have d0 := hkw.cell HD.out trivial
          have f5 := lt_of_cell d0
          go_upto_region 10 with fail
          go_quiet (fail)
          go_wp2_with fail
          go_ret
          exact ⟨ret_int' HF.out.symm, (by repeat (first | exact hall | refine Kept.then_drew ?_ | refine Kept.then_drewN ?_ _ | refine Kept.then_alloc ?_ _))⟩
        · have g0 : decide (x.frm ≤ y.frm) = false := by simpa using hup
          have hup' : namUp (prevAt l (k + 1)) x = false := by rw [hpv.out]; exact g0
          by_cases hl4 : 4000 < x.frm
          · have d4 : decide ((4000 : Int) < x.frm) = true := by simpa using hl4
            have HF := Lib.hid (show namesF l = 1 from by rw [HSC.out]; exact hat.bad HX.out (namE_late hnb hup' hl4) (by decide))
            clear hat hl4
            go_wp2_with fail
            refine (HIP.out _ (by repeat (first | exact hall | refine Kept.then_drew ?_ | refine Kept.then_drewN ?_ _ | refine Kept.then_alloc ?_ _))).mono ?_
            rintro e w' ⟨rfl, hkw⟩
            rw [hpl]
            have hall := Kept.trans (show All w _ from (by repeat (first | exact hall | refine Kept.then_drew ?_ | refine Kept.then_drewN ?_ _ | refine Kept.then_alloc ?_ _))) hkw
            have e0 := hkw.cell e0 trivial
            have e1 := hkw.cell e1 trivial
            have d0 := hkw.cell HD.out trivial
            have f5 := lt_of_cell d0
            go_upto_region 10 with fail
            go_quiet (fail)
            go_wp2_with fail
            go_ret
            exact ⟨ret_int' HF.out.symm, (by repeat (first | exact hall | refine Kept.then_drew ?_ | refine Kept.then_drewN ?_ _ | refine Kept.then_alloc ?_ _))⟩
          · have d4 : decide ((4000 : Int) < x.frm) = false := by simpa using hl4
            have HN := Lib.hid (hat.next HX.out (namE_ok hnb hup' hl4))
            clear hat hl4
            go_wp2_with fail
            refine (HIP.out _ (by repeat (first | exact hall | refine Kept.then_drew ?_ | refine Kept.then_drewN ?_ _ | refine Kept.then_alloc ?_ _))).mono ?_
            rintro e w' ⟨rfl, hkw⟩
            rw [hpl]
            have hall := Kept.trans (show All w _ from (by repeat (first | exact hall | refine Kept.then_drew ?_ | refine Kept.then_drewN ?_ _ | refine Kept.then_alloc ?_ _))) hkw
            have e0 := hkw.cell e0 trivial
            have e1 := hkw.cell e1 trivial
            have d0 := hkw.cell HD.out trivial
            have f5 := lt_of_cell d0
            go_upto_region 10 with fail
            go_quiet (fail)
            go_wp2_with fail
            go_roundw
            case rel => exact ⟨k + 1 + 1, by omega, by go_num, HN.out, (by repeat (first | exact hall | refine Kept.then_drew ?_ | refine Kept.then_drewN ?_ _ | refine Kept.then_alloc ?_ _))⟩
            case measure => simp [intOf]; omega
    · have hd : decide ((k : Int) < (len : Int)) = false := by simp; omega
      have HF := Lib.hid (show namesF l = 0 from by rw [HSC.out]; exact hat.ok (by have := HLEN.out; omega))
      clear hat
      go_wp2_with fail
      go_ret
      exact ⟨ret_int' HF.out.symm, hall⟩
end Go.Proofs.YtgobnlgmbplggaaGreatDoor
