/- Derived: walks: the reference of layer 29: views, what is in effect. -/
import Derived.Test.YtgibdafkidkahaaGreatDoorLed4
set_option linter.unusedVariables false
set_option linter.unusedSimpArgs false
namespace Go.Proofs.YtgibdafkidkahaaGreatDoor
open Go.RowKit

/-- The error of a ledger's view, its marks and its events. -/
def lvErr (g : Lg) (nm : Str) : Int := if checkL g ≠ 0 then checkL g else viewErr g.brs (cnts g) nm
def lvMk (g : Lg) (nm : Str) : List Mk := if lvErr g nm = 0 then vw g.brs (cnts g) (idx g.brs nm).toNat else []
def lvEv (g : Lg) (nm : Str) : List Ev := evsOf g (lvMk g nm)
theorem lvErr_bad {g : Lg} {nm : Str} (h : checkL g ≠ 0) : lvErr g nm = checkL g := if_pos h
theorem lvErr_ok {g : Lg} {nm : Str} (h : checkL g = 0) : lvErr g nm = viewErr g.brs (cnts g) nm := by rw [lvErr, if_neg (by simp [h])]
theorem lvMk_nil {g : Lg} {nm : Str} (h : lvErr g nm ≠ 0) : lvMk g nm = [] := if_neg h
theorem lvMk_ok {g : Lg} {nm : Str} (h : lvErr g nm = 0) : lvMk g nm = vw g.brs (cnts g) (idx g.brs nm).toNat := if_pos h
theorem lvEv_nil {g : Lg} {nm : Str} (h : lvErr g nm ≠ 0) : lvEv g nm = [] := by rw [lvEv, lvMk_nil h]; rfl
theorem lvErr_zero {g : Lg} {nm : Str} (h : lvErr g nm = 0) : checkL g = 0 ∧ viewErr g.brs (cnts g) nm = 0 := by
  unfold lvErr at h
  split at h
  · rename_i h1; exact absurd h h1
  · rename_i h1; exact ⟨by simpa using h1, h⟩
theorem cnts_40 {g : Lg} (h : S6 g) (i : Nat) (y : Int) (hy : (cnts g)[i]? = some y) : 0 ≤ y ∧ y ≤ 40 := by
  rw [cnts, List.getElem?_map] at hy
  cases hx : g.evs[i]? with
  | none => rw [hx] at hy; cases hy
  | some x =>
    rw [hx] at hy
    simp only [Option.map_some, Option.some.injEq] at hy
    have := List.any_eq_false.1 h.1.2 x (List.mem_of_getElem? hx)
    simp at this
    omega
/-- What a view that there is, is. -/
theorem lv_facts {g : Lg} {nm : Str} (h : lvErr g nm = 0) : ∃ i : Nat, idx g.brs nm = i ∧ i < g.brs.length ∧ viewL g.brs (cnts g) nm = lvMk g nm ∧ lvMk g nm = vw g.brs (cnts g) i ∧ (∀ m ∈ lvMk g nm, MkOk g m) ∧ (lvMk g nm).length ≤ 360 := by
  obtain ⟨h1, h2⟩ := lvErr_zero h
  obtain ⟨h3, _⟩ := checkL_zero h1
  have h4 := (viewErr_zero h2).2
  obtain ⟨i, hi⟩ : ∃ i : Nat, idx g.brs nm = i := ⟨(idx g.brs nm).toNat, by omega⟩
  have hil : i < g.brs.length := by have := (idx_lt g.brs nm).1; omega
  have e1 : lvMk g nm = vw g.brs (cnts g) i := by rw [lvMk_ok h, hi, Int.toNat_natCast]
  refine ⟨i, hi, hil, by rw [viewL_ok h2, lvMk_ok h], e1, ?_, ?_⟩
  · rw [e1]; exact vw_ok h3.1.1.1.2 h3.1.1.2 i hil
  · rw [e1]; exact vwStep_length h3.1.1.1.2 (cnts_40 h3)
theorem lvEv_len (g : Lg) (nm : Str) : (lvEv g nm).length = (lvMk g nm).length := by simp [lvEv, evsOf]

set_option maxRecDepth 100000 in
set_option maxHeartbeats 4000000 in
theorem ref29_View (g : Lg) (nm : Str) (v : Value) (w : World) (hv : LgV w v g) :
    Calls Tryz.prog 55 #[v, .string nm] w fun e w' => ∃ r, e = .returned (.tuple #[r, .int .i64 (lvErr g nm)]) ∧ Own elEv 76 w.heap.size w' r (lvEv g nm) ∧ Ext w w' := by
  obtain ⟨A0, c0, A1, c1, A2, c2, rfl, h0, h1, h2, r0, r1, r2⟩ := hv.ex
  by_cases hck : checkL g = 0
  · have hb8 : g.brs.length ≤ 8 := (checkB_zero (checkL_zero hck).1.1.1.1.2).1
    have hev8 : g.evs.length ≤ 8 := by have := (checkL_zero hck).1.1.1.2; omega
    have HLE := Lib.hid (lvErr_ok (nm := nm) hck)
    by_cases hve : viewErr g.brs (cnts g) nm = 0
    · have hle : lvErr g nm = 0 := by rw [HLE.out, hve]
      obtain ⟨i, hi, hil, hvl, hvw, hmo, hlen⟩ := lv_facts hle
      have hck := Lib.hid hck
      have HVE := Lib.hid hve
      have HVL := Lib.hid hvl
      have HMO := Lib.hid hmo
      have HLN := Lib.hid hlen
      rw [hle]
      clear hle hi hil hvl hvw hmo hlen hve HLE
      go_enter Tryz.func55, Tryz.ntmps55
      go_wp2_with (with_reducible refine stop_box ?_)
      refine Stop.go ?_
      refine ev_box3 (c0 := .slice A0 g.known.length c0) (c1 := .slice A1 g.brs.length c1) (c2 := .slice A2 g.evs.length c2) rfl ?_
      intro g1 w1 hb_g1 he hg_g1 k0 k1 k2
      have HE := Lib.hid he
      have HV := Lib.hid (hv.ext he)
      have R1 := Lib.hid (r1.ext he)
      clear he r0 r1 r2 hv hb_g1 hg_g1
      go_wp2_with fail
      refine (ref29_Check g _ w1 HV.out).mono ?_
      rintro e w2 ⟨rfl, he2⟩
      rw [hck.out]
      have HE2 := Lib.hid he2
      clear he2
      have y0 : ∀ y : Up w1, y.u.cell? _ = _ := fun y => y.ext.cell k0
      have y1 : ∀ y : Up w1, y.u.cell? _ = _ := fun y => y.ext.cell k1
      have y2 : ∀ y : Up w1, y.u.cell? _ = _ := fun y => y.ext.cell k2
      have HCNT := Lib.hid (ref29_Counts g _ w2.drew (HV.out.ext HE2.out.drew) (by omega))
      go_wp2
      refine wp_region_planE HE2.out [(true, 0), (true, 1), (true, 2), (true, 4), (false, 3), (false, 5), (true, 6), (true, 7), (true, 8), (true, 9), (true, 10)] (by kernel_rfl) (by kernel_rfl) ?_
      iterate 4 ((try go_frame); refine plan_read ?_; go_big_quiet_step (fail); refine wpQuiet_nil ?_)
      refine plan_enter (F := 33) rfl (fun _ _ => by kernel_rfl) HE2.out.drew (HCNT.out.mono ?_)
      rintro e w3 ⟨r, rfl, hfr, he3⟩
      refine ⟨_, rfl, he3, ?_⟩
      have hE3 : Ext w1 w3 := HE2.out.drew.trans he3
      obtain ⟨A3, c3, rfl, hc3, hr3⟩ := hfr.sl
      refine plan_enter (F := 32) rfl (fun _ _ => by kernel_rfl) hE3 ((ref26_View g.brs (cnts g) nm A1 A3 c1 c3 w3 (R1.out.ext hE3) hr3 h1).mono ?_)
      rintro e w5 ⟨r, rfl, hfr2, he5⟩
      refine ⟨_, rfl, he5, ?_⟩
      rw [HVE.out]
      rw [HVL.out] at hfr2
      obtain ⟨A5, c5, rfl, hc5, hr5⟩ := hfr2.sl
      iterate 5 ((try go_frame); refine plan_read ?_; go_big_quiet_step (fail); refine wpQuiet_nil ?_)
      refine plan_end ?_
      have hE5 : Ext w1 w5 := hE3.trans he5
      have HSEEN := Lib.hid (ref29_Seen g (lvMk g nm) (lvMk g nm).length _ A5 c5 w5 (HV.out.ext hE5) hr5 hc5 HMO.out (by have := HLN.out; omega) (by have := HLN.out; omega))
      rw [List.take_length] at HSEEN
      replace k0 := hE5.cell k0
      replace k1 := hE5.cell k1
      replace k2 := hE5.cell k2
      have HE5 : Hid (Ext w w5) := Lib.hid (HE.out.trans hE5)
      obtain ⟨n, hn⟩ : ∃ n, n = (lvMk g nm).length := ⟨_, rfl⟩
      rw [← hn] at HSEEN ⊢
      clear hn hc5 hfr hfr2 he3 he5 hE3 hE5 hr3 hc3 hr5 HCNT y0 y1 y2 HE2
      go_wp2_with fail
      refine HSEEN.out.mono ?_
      rintro e w6 ⟨r, rfl, hown6, he6⟩
      have HO : Hid (Own elEv 76 w.heap.size w6 r (lvEv g nm)) := Lib.hid (hown6.lower HE5.out.size)
      have HE6 : Hid (Ext w w6) := Lib.hid (HE5.out.trans he6)
      clear hown6 he6 HSEEN
      go_wp2
      go_ret2
      exact ⟨_, rfl, HO.out, HE6.out⟩
    · have hle : lvErr g nm ≠ 0 := by rw [HLE.out]; exact hve
      rw [lvEv_nil hle, HLE.out]
      have hck := Lib.hid hck
      have e9 : (viewErr g.brs (cnts g) nm != 0) = true := bne_iff_ne.2 hve
      clear hle hve HLE
      go_enter Tryz.func55, Tryz.ntmps55
      go_wp2_with (with_reducible refine stop_box ?_)
      refine Stop.go ?_
      refine ev_box3 (c0 := .slice A0 g.known.length c0) (c1 := .slice A1 g.brs.length c1) (c2 := .slice A2 g.evs.length c2) rfl ?_
      intro g1 w1 hb_g1 he hg_g1 k0 k1 k2
      have HE := Lib.hid he
      have HV := Lib.hid (hv.ext he)
      have R1 := Lib.hid (r1.ext he)
      clear he r0 r1 r2 hv hb_g1 hg_g1
      go_wp2_with fail
      refine (ref29_Check g _ w1 HV.out).mono ?_
      rintro e w2 ⟨rfl, he2⟩
      rw [hck.out]
      have HE2 := Lib.hid he2
      clear he2
      have y0 : ∀ y : Up w1, y.u.cell? _ = _ := fun y => y.ext.cell k0
      have y1 : ∀ y : Up w1, y.u.cell? _ = _ := fun y => y.ext.cell k1
      have y2 : ∀ y : Up w1, y.u.cell? _ = _ := fun y => y.ext.cell k2
      have HCNT := Lib.hid (ref29_Counts g _ w2.drew (HV.out.ext HE2.out.drew) (by omega))
      go_wp2
      refine wp_region_planE HE2.out [(true, 0), (true, 1), (true, 2), (true, 4), (false, 3), (false, 5), (true, 6), (true, 7), (true, 8), (true, 9), (true, 10)] (by kernel_rfl) (by kernel_rfl) ?_
      iterate 4 ((try go_frame); refine plan_read ?_; go_big_quiet_step (fail); refine wpQuiet_nil ?_)
      refine plan_enter (F := 33) rfl (fun _ _ => by kernel_rfl) HE2.out.drew (HCNT.out.mono ?_)
      rintro e w3 ⟨r, rfl, hfr, he3⟩
      refine ⟨_, rfl, he3, ?_⟩
      have hE3 : Ext w1 w3 := HE2.out.drew.trans he3
      obtain ⟨A3, c3, rfl, hc3, hr3⟩ := hfr.sl
      refine plan_enter (F := 32) rfl (fun _ _ => by kernel_rfl) hE3 ((ref26_View g.brs (cnts g) nm A1 A3 c1 c3 w3 (R1.out.ext hE3) hr3 h1).mono ?_)
      rintro e w5 ⟨r, rfl, hfr2, he5⟩
      refine ⟨_, rfl, he5, ?_⟩
      iterate 5 ((try go_frame); refine plan_read ?_; go_big_quiet_step (fail); refine wpQuiet_nil ?_)
      refine plan_end ?_
      have HE5 : Hid (Ext w w5) := Lib.hid (HE.out.trans (hE3.trans he5))
      clear hfr hfr2 he3 he5 hE3 hr3 hc3 HCNT y0 y1 y2 HE2
      generalize hz : viewErr g.brs (cnts g) nm = z at *
      have HZ := Lib.hid hz
      clear hz
      go_wp2
      go_ret2
      rw [HZ.out]
      exact ⟨_, rfl, Own.nil _ _ _ _, HE5.out⟩
  · have hle : lvErr g nm ≠ 0 := by rw [lvErr_bad hck]; exact hck
    rw [lvEv_nil hle, lvErr_bad hck]
    have e9 : (checkL g != 0) = true := bne_iff_ne.2 hck
    have HC : Hid (∀ w2, Ext w w2 → _) := Lib.hid fun w2 (he : Ext w w2) => ref29_Check g _ w2 (hv.ext he)
    clear hck hle
    generalize checkL g = z at *
    go_enter Tryz.func55, Tryz.ntmps55
    go_wp2_with (with_reducible refine stop_box ?_)
    refine Stop.go ?_
    refine ev_box3 (c0 := .slice A0 g.known.length c0) (c1 := .slice A1 g.brs.length c1) (c2 := .slice A2 g.evs.length c2) rfl ?_
    intro g1 w1 hb_g1 he hg_g1 k0 k1 k2
    have HE_w1 := Lib.hid he
    clear he r0 r1 r2 hv hb_g1 hg_g1
    go_wp2_with fail
    refine (HC.out  w1 HE_w1.out).mono ?_
    rintro e w2 ⟨rfl, he_w2⟩
    replace k0 := he_w2.cell k0
    replace k1 := he_w2.cell k1
    replace k2 := he_w2.cell k2
    have HE_w2 : Hid (Ext w w2) := Lib.hid (HE_w1.out.trans he_w2)
    clear he_w2 HE_w1
    go_wp2_with fail
    refine (HC.out  w2 HE_w2.out).mono ?_
    rintro e w3 ⟨rfl, he_w3⟩
    have HE_w3 : Hid (Ext w w3) := Lib.hid (HE_w2.out.trans he_w3)
    clear he_w3 HE_w2
    go_wp2
    go_ret2
    exact ⟨_, rfl, Own.nil _ _ _ _, HE_w3.out⟩

def effectL (g : Lg) (nm : Str) : List Int := if lvErr g nm = 0 then effL g (lvEv g nm) else []
theorem ref29_Effect (g : Lg) (nm : Str) (v : Value) (w : World) (hv : LgV w v g) :
    Calls Tryz.prog 88 #[v, .string nm] w fun e w' => ∃ r, e = .returned (.tuple #[r, .int .i64 (lvErr g nm)]) ∧ Own elInt 3 w.heap.size w' r (effectL g nm) ∧ Ext w w' := by
  obtain ⟨A0, c0, A1, c1, A2, c2, rfl, h0, h1, h2, r0, r1, r2⟩ := hv.ex
  go_enter Tryz.func88, Tryz.ntmps88
  go_wp2_with (with_reducible refine stop_box ?_)
  refine Stop.go ?_
  refine ev_box3 (c0 := .slice A0 g.known.length c0) (c1 := .slice A1 g.brs.length c1) (c2 := .slice A2 g.evs.length c2) rfl ?_
  intro g1 w1 hb_g1 he hg_g1 k0 k1 k2
  have HE := Lib.hid he
  have HV := Lib.hid (hv.ext he)
  have HVW := Lib.hid (ref29_View g nm _ w1 (hv.ext he))
  clear he r0 r1 r2 hv hb_g1 hg_g1
  go_wp2_with fail
  refine HVW.out.mono ?_
  rintro e w2 ⟨r, rfl, hown, he2⟩
  have HE2 := Lib.hid (HE.out.trans he2)
  replace k0 := he2.cell k0
  replace k1 := he2.cell k1
  replace k2 := he2.cell k2
  obtain ⟨A5, c5, rfl, hc5, hr5⟩ := hown.sl
  have HEF := Lib.hid (ref29_effect g (lvEv g nm) _ A5 c5 w2 (HV.out.ext he2) hr5 hc5)
  clear hown he2 hr5 hc5 HVW
  by_cases hle : lvErr g nm = 0
  · have HR : Hid (effectL g nm = effL g (lvEv g nm)) := Lib.hid (if_pos hle)
    have HLE := Lib.hid hle
    rw [hle]
    clear hle
    go_wp2_with fail
    refine HEF.out.mono ?_
    rintro e w3 ⟨r, rfl, hown, he3⟩
    have HO : Hid (Own elInt 3 w.heap.size w3 r (effectL g nm)) := Lib.hid (by rw [HR.out]; exact hown.lower HE2.out.size)
    have HE3 := Lib.hid (HE2.out.trans he3)
    clear hown he3 HEF
    go_wp2
    go_ret2
    rw [HLE.out]
    exact ⟨_, rfl, HO.out, HE3.out⟩
  · have HR : Hid (effectL g nm = []) := Lib.hid (if_neg hle)
    have e9 : (lvErr g nm != 0) = true := bne_iff_ne.2 hle
    clear hle HEF
    generalize hz : lvErr g nm = z at *
    have HZ := Lib.hid hz
    clear hz
    go_wp2
    go_ret2
    rw [HR.out, HZ.out]
    exact ⟨_, rfl, Own.nil _ _ _ _, HE2.out⟩

/-- The error of a part of a view, and what is in effect behind it. -/
def afterErr (g : Lg) (nm : Str) (n : Int) : Int := if lvErr g nm ≠ 0 then lvErr g nm else if n < 0 ∨ ((lvMk g nm).length : Int) < n then 2 else 0
def afterL (g : Lg) (nm : Str) (n : Int) : List Int := if afterErr g nm n = 0 then effL g ((lvEv g nm).take n.toNat) else []
theorem afterErr_bad {g : Lg} {nm : Str} {n : Int} (h : lvErr g nm ≠ 0) : afterErr g nm n = lvErr g nm := if_pos h
theorem afterErr_arg {g : Lg} {nm : Str} {n : Int} (h : lvErr g nm = 0) (h1 : n < 0 ∨ ((lvMk g nm).length : Int) < n) : afterErr g nm n = 2 := by rw [afterErr, if_neg (by simp [h]), if_pos h1]
theorem afterErr_ok {g : Lg} {nm : Str} {n : Int} (h : lvErr g nm = 0) (h1 : ¬ (n < 0 ∨ ((lvMk g nm).length : Int) < n)) : afterErr g nm n = 0 := by rw [afterErr, if_neg (by simp [h]), if_neg h1]
theorem ref29_effect_n (g : Lg) (s : List Ev) (v : Value) (A : Option Addr) (n c : Nat) (w : World) (hv : LgV w v g) (hs : Rd elEv w A s) (hn : s.length = n) (hc : n ≤ c) :
    Calls Tryz.prog 162 #[v, .slice A n c] w fun e w' => ∃ r, e = .returned r ∧ Own elInt 3 w.heap.size w' r (effL g s) ∧ Ext w w' := by
  subst hn; exact ref29_effect g s v A c w hv hs hc
theorem iEvB : (Tryz.prog.info? 76).map (fun i => (i.zero, i.size, i.bytes)) = some (some (.agg #[.int .u8 0, .string ⟨#[]⟩]), 2, 24) := iEv
set_option maxRecDepth 100000 in
set_option maxHeartbeats 4000000 in
theorem ref29_After (g : Lg) (nm : Str) (n : Int) (v : Value) (w : World) (hv : LgV w v g) :
    Calls Tryz.prog 77 #[v, .string nm, .int .i64 n] w fun e w' => ∃ r, e = .returned (.tuple #[r, .int .i64 (afterErr g nm n)]) ∧ Own elInt 3 w.heap.size w' r (afterL g nm n) ∧ Ext w w' := by
  obtain ⟨A0, c0, A1, c1, A2, c2, rfl, h0, h1, h2, r0, r1, r2⟩ := hv.ex
  go_enter Tryz.func77, Tryz.ntmps77
  go_wp2_with (with_reducible refine stop_box ?_)
  refine Stop.go ?_
  refine ev_box3 (c0 := .slice A0 g.known.length c0) (c1 := .slice A1 g.brs.length c1) (c2 := .slice A2 g.evs.length c2) rfl ?_
  intro g1 w1 hb_g1 he hg_g1 k0 k1 k2
  have HE := Lib.hid he
  have HV := Lib.hid (hv.ext he)
  have HVW := Lib.hid (ref29_View g nm _ w1 (hv.ext he))
  clear he r0 r1 r2 hv hb_g1 hg_g1
  go_wp2_with fail
  refine HVW.out.mono ?_
  rintro e w2 ⟨r, rfl, hown, he2⟩
  have HE2 := Lib.hid (HE.out.trans he2)
  replace k0 := he2.cell k0
  replace k1 := he2.cell k1
  replace k2 := he2.cell k2
  obtain ⟨A5, c5, rfl, hc5, hr5⟩ := hown.sl
  have HV2 := Lib.hid (HV.out.ext he2)
  have HR5 := Lib.hid hr5
  have HLN := Lib.hid (lvEv_len g nm)
  clear hown he2 hr5 HVW
  obtain ⟨m, hm⟩ : ∃ m, m = (lvEv g nm).length := ⟨_, rfl⟩
  rw [← hm] at hc5 ⊢
  have HM := Lib.hid hm
  clear hm
  by_cases hle : lvErr g nm = 0
  · by_cases hn : n < 0 ∨ (m : Int) < n
    · have HA : Hid (afterErr g nm n = 2) := Lib.hid (afterErr_arg hle (by rw [← HLN.out, ← HM.out]; exact hn))
      have HR : Hid (afterL g nm n = []) := Lib.hid (if_neg (by rw [HA.out]; decide))
      rw [hle]
      clear hle
      rcases hn with hn | hn
      · go_wp2
        go_ret2
        rw [HR.out, HA.out]
        exact ⟨_, rfl, Own.nil _ _ _ _, HE2.out⟩
      · have hn0 : ¬ n < 0 := by omega
        go_wp2
        go_ret2
        rw [HR.out, HA.out]
        exact ⟨_, rfl, Own.nil _ _ _ _, HE2.out⟩
    · have HA : Hid (afterErr g nm n = 0) := Lib.hid (afterErr_ok hle (by rw [← HLN.out, ← HM.out]; exact hn))
      have HR : Hid (afterL g nm n = effL g ((lvEv g nm).take n.toNat)) := Lib.hid (if_pos HA.out)
      rw [hle]
      obtain ⟨k, hk⟩ : ∃ k : Nat, n = k := ⟨n.toNat, by omega⟩
      subst hk
      rw [Int.toNat_natCast] at HR
      have hkm : k ≤ m := by omega
      have hkc : k ≤ c5 := by omega
      have HT : Hid (((lvEv g nm).take k).length = k) := Lib.hid (by rw [List.length_take, ← HM.out]; omega)
      have hn1 : ¬ ((k : Int) < 0) := by omega
      have hn2 : ¬ ((m : Int) < (k : Int)) := by omega
      clear hle hn
      have y0 : ∀ y : Up w2, y.u.cell? _ = _ := fun y => y.ext.cell k0
      have y1 : ∀ y : Up w2, y.u.cell? _ = _ := fun y => y.ext.cell k1
      have y2 : ∀ y : Up w2, y.u.cell? _ = _ := fun y => y.ext.cell k2
      go_wp2
      refine wp_region_planU [(true, 0), (true, 1), (true, 2), (true, 3), (false, 4), (true, 5), (true, 6)] (by kernel_rfl) (by kernel_rfl) ?_
      iterate 4 ((try go_frame); refine plan_read ?_; go_big_quiet_step (fail); refine wpQuiet_nil ?_)
      refine plan_enter (F := 162) rfl (fun _ _ => by kernel_rfl) (Ext.refl w2).drew ((ref29_effect_n g ((lvEv g nm).take k) _ A5 k c5 w2.drew (HV2.out.ext (Ext.refl w2).drew) ((HR5.out.take k).ext (Ext.refl w2).drew) HT.out hkc).mono ?_)
      rintro e w3 ⟨r, rfl, hown, he3⟩
      refine ⟨_, rfl, he3, ?_⟩
      iterate 2 ((try go_frame); refine plan_read ?_; go_big_quiet_step (fail); refine wpQuiet_nil ?_)
      refine plan_end ?_
      have HO : Hid (Own elInt 3 w.heap.size w3 r (afterL g nm (k : Int))) := Lib.hid (by rw [HR.out]; exact hown.lower (HE2.out.drew).size)
      have HE3 : Hid (Ext w w3) := Lib.hid (HE2.out.drew.trans he3)
      clear hown he3 y0 y1 y2
      go_wp2
      go_ret2
      rw [HA.out]
      exact ⟨_, rfl, HO.out, HE3.out⟩
  · have HA : Hid (afterErr g nm n = lvErr g nm) := Lib.hid (afterErr_bad hle)
    have HR : Hid (afterL g nm n = []) := Lib.hid (if_neg (by rw [HA.out]; exact hle))
    have e9 : (lvErr g nm != 0) = true := bne_iff_ne.2 hle
    clear hle
    generalize hz : lvErr g nm = z at *
    have HZ := Lib.hid hz
    clear hz
    go_wp2
    go_ret2
    rw [HR.out, HA.out]
    exact ⟨_, rfl, Own.nil _ _ _ _, HE2.out⟩
end Go.Proofs.YtgibdafkidkahaaGreatDoor
