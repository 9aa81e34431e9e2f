/- Derived: walks: the view of a ledger's branch, and what is in effect. -/
import Derived.Test.YtgibdafkidkahaaGreatDoorLCheck
set_option linter.unusedVariables false
set_option linter.unusedSimpArgs false
namespace Go.Proofs.YtgibdafkidkahaaGreatDoor
open Go.RowKit

theorem lvMk_view {g : Lg} {nm : Str} (hck : checkL g = 0) : lvMk g nm = viewL g.brs (cnts g) nm := by
  by_cases h : viewErr g.brs (cnts g) nm = 0
  · obtain ⟨_, _, _, h1, _⟩ := lv_facts (g := g) (nm := nm) (by rw [lvErr_ok hck, h])
    exact h1.symm
  · rw [viewL_nil h, lvMk_nil (by rw [lvErr_ok hck]; exact h)]
set_option maxRecDepth 100000 in
set_option maxHeartbeats 4000000 in
theorem ledger_view (g : Lg) (nm : Str) (v : Value) (w : World) (hv : LgV w v g) :
    Calls Tryz.prog 102 #[v, .string nm] w fun e w' => ∃ r, e = .returned (.tuple #[r, .int .i64 (lvErr g nm)]) ∧ Own elMk 109 w.heap.size w' r (lvMk g nm) ∧ Ext w w' := by
  obtain ⟨A0, c0, A1, c1, A2, c2, rfl, h0, h1, h2, r0, r1, r2⟩ := hv.ex
  by_cases hck : checkL g = 0
  · have hev8 : g.evs.length ≤ 8 := by have := (checkL_zero hck).1.1.1.2; have := (checkB_zero (checkL_zero hck).1.1.1.1.2).1; omega
    rw [lvErr_ok (nm := nm) hck, lvMk_view (nm := nm) hck]
    have hck := Lib.hid hck
    go_enter Tryz.func102, Tryz.ntmps102
    go_wp2_with (with_reducible refine stop_box ?_)
    refine Stop.go ?_
    refine ev_box3 (c0 := .slice A0 g.known.length c0) (c1 := .slice A1 g.brs.length c1) (c2 := .slice A2 g.evs.length c2) rfl ?_
    intro g1 w1 hb_g1 he hg_g1 k0 k1 k2
    have HE := Lib.hid he
    have HV := Lib.hid (hv.ext he)
    have R1 := Lib.hid (r1.ext he)
    clear he r0 r1 r2 hv hb_g1 hg_g1
    go_wp2_with fail
    refine (ledger_Check g _ w1 HV.out).mono ?_
    rintro e w2 ⟨rfl, he2⟩
    rw [hck.out]
    have HE2 := Lib.hid he2
    clear he2
    have y0 : ∀ y : Up w1, y.u.cell? _ = _ := fun y => y.ext.cell k0
    have y1 : ∀ y : Up w1, y.u.cell? _ = _ := fun y => y.ext.cell k1
    have y2 : ∀ y : Up w1, y.u.cell? _ = _ := fun y => y.ext.cell k2
    have HCNT := Lib.hid (ledger_counts g _ w2.drew (HV.out.ext HE2.out.drew) (by omega))
    go_wp2
    refine wp_region_planE HE2.out [(true, 0), (true, 1), (true, 2), (true, 4), (false, 3), (false, 5), (true, 6), (true, 7), (true, 8), (true, 9)] (by kernel_rfl) (by kernel_rfl) ?_
    iterate 4 ((try go_frame); refine plan_read ?_; go_big_quiet_step (fail); refine wpQuiet_nil ?_)
    refine plan_enter (F := 135) rfl (fun _ _ => by kernel_rfl) HE2.out.drew (HCNT.out.mono ?_)
    rintro e w3 ⟨r, rfl, hfr, he3⟩
    refine ⟨_, rfl, he3, ?_⟩
    have hE3 : Ext w1 w3 := HE2.out.drew.trans he3
    obtain ⟨A3, c3, rfl, hc3, hr3⟩ := hfr.sl
    refine plan_enter (F := 134) rfl (fun _ _ => by kernel_rfl) hE3 ((branch_View g.brs (cnts g) nm A1 A3 c1 c3 w3 (R1.out.ext hE3) hr3 h1).mono ?_)
    rintro e w5 ⟨r, rfl, hown, he5⟩
    refine ⟨_, rfl, he5, ?_⟩
    iterate 4 ((try go_frame); refine plan_read ?_; go_big_quiet_step (fail); refine wpQuiet_nil ?_)
    refine plan_end ?_
    have HE5 : Hid (Ext w w5) := Lib.hid (HE.out.trans (hE3.trans he5))
    have HO : Hid (Own elMk 109 w.heap.size w5 r (viewL g.brs (cnts g) nm)) := Lib.hid (hown.lower (HE.out.trans hE3).size)
    clear hfr hown he3 he5 hE3 hr3 hc3 HCNT y0 y1 y2 HE2
    generalize hz : viewErr g.brs (cnts g) nm = z at *
    have HZ := Lib.hid hz
    clear hz
    go_wp2
    go_ret2
    rw [HZ.out]
    exact ⟨_, rfl, HO.out, HE5.out⟩
  · have hle : lvErr g nm ≠ 0 := by rw [lvErr_bad hck]; exact hck
    rw [lvMk_nil hle, lvErr_bad hck]
    have e9 : (checkL g != 0) = true := bne_iff_ne.2 hck
    have HC : Hid (∀ w2, Ext w w2 → _) := Lib.hid fun w2 (he : Ext w w2) => ledger_Check g _ w2 (hv.ext he)
    clear hck hle
    generalize checkL g = z at *
    go_enter Tryz.func102, Tryz.ntmps102
    go_wp2_with (with_reducible refine stop_box ?_)
    refine Stop.go ?_
    refine ev_box3 (c0 := .slice A0 g.known.length c0) (c1 := .slice A1 g.brs.length c1) (c2 := .slice A2 g.evs.length c2) rfl ?_
    intro g1 w1 hb_g1 he hg_g1 k0 k1 k2
    have HE_w1 := Lib.hid he
    clear he r0 r1 r2 hv hb_g1 hg_g1
    go_wp2_with fail
    refine (HC.out  w1 HE_w1.out).mono ?_
    rintro e w2 ⟨rfl, he_w2⟩
    replace k0 := he_w2.cell k0
    replace k1 := he_w2.cell k1
    replace k2 := he_w2.cell k2
    have HE_w2 : Hid (Ext w w2) := Lib.hid (HE_w1.out.trans he_w2)
    clear he_w2 HE_w1
    go_wp2
    go_ret2
    exact ⟨_, rfl, Own.nil _ _ _ _, HE_w2.out⟩

/-- The marks of a view that there is. -/
theorem lvMk_cls {g : Lg} {nm : Str} (h : lvErr g nm = 0) : ∀ m ∈ lvMk g nm, MkCls g m := by
  obtain ⟨h1, _⟩ := lvErr_zero h
  obtain ⟨h6, hok⟩ := checkL_zero h1
  obtain ⟨i, _, hi, _, hvw, hmo, _⟩ := lv_facts h
  intro m hm
  have hmk := hmo m hm
  refine ⟨hmk, ?_, (cls_lt h6.1.1.1.1 _).2⟩
  obtain ⟨k, j, own, e, hk, hj, hown, hev, hat⟩ := hmk.get
  have hkl : k < g.brs.length := by have := (List.getElem?_eq_some_iff.1 hown).1; have := h6.1.1.2; omega
  have ho := hok k hkl
  unfold okBr at ho
  rw [List.getD_eq_getElem?_getD, hown, Option.getD_some, okEvs_iff] at ho
  rw [hat]
  exact (ho j e hev).1
theorem lv_nodup {g : Lg} {nm : Str} (h : lvErr g nm = 0) : NoDup g.known := noDup_of (checkL_zero (lvErr_zero h).1).1.1.1.1.1.1.2
theorem lets_eff (g : Lg) (s : List Ev) : lets (innF g s) 30 = effL g s := rfl
set_option maxRecDepth 100000 in
set_option maxHeartbeats 4000000 in
theorem ledger_Effect (g : Lg) (nm : Str) (v : Value) (w : World) (hv : LgV w v g) :
    Calls Tryz.prog 65 #[v, .string nm] w fun e w' => ∃ r, e = .returned (.tuple #[r, .int .i64 (lvErr g nm)]) ∧ Own elInt 3 w.heap.size w' r (effectL g nm) ∧ Ext w w' := by
  obtain ⟨A0, c0, A1, c1, A2, c2, rfl, h0, h1, h2, r0, r1, r2⟩ := hv.ex
  go_enter Tryz.func65, Tryz.ntmps65
  go_wp2_with (with_reducible refine stop_box ?_)
  refine Stop.go ?_
  refine ev_box3 (c0 := .slice A0 g.known.length c0) (c1 := .slice A1 g.brs.length c1) (c2 := .slice A2 g.evs.length c2) rfl ?_
  intro g1 w1 hb_g1 he hg_g1 k0 k1 k2
  have HE := Lib.hid he
  have HV := Lib.hid (hv.ext he)
  have HVW := Lib.hid (ledger_view g nm _ w1 (hv.ext he))
  clear he r0 r1 r2 hv hb_g1 hg_g1
  go_wp2_with fail
  refine HVW.out.mono ?_
  rintro e w2 ⟨r, rfl, hown, he2⟩
  have HE2 := Lib.hid (HE.out.trans he2)
  replace k0 := he2.cell k0
  replace k1 := he2.cell k1
  replace k2 := he2.cell k2
  obtain ⟨A5, c5, rfl, hc5, hr5⟩ := hown.sl
  have HF := Lib.hid (fun hle => ledger_folded g (lvMk g nm) _ A5 c5 w2 (HV.out.ext he2) hr5 hc5 (lvMk_cls hle) (lv_nodup hle))
  clear hown he2 hr5 hc5 HVW
  by_cases hle : lvErr g nm = 0
  · have HR : Hid (effectL g nm = effL g (evsOf g (lvMk g nm))) := Lib.hid (if_pos hle)
    have HLE := Lib.hid hle
    rw [hle]
    clear hle
    go_wp2_with fail
    refine (HF.out HLE.out).mono ?_
    rintro e w3 ⟨b, rfl, hst, hb3, he3⟩
    have HE3 := Lib.hid (HE2.out.trans he3)
    have HL := Lib.hid (state_list b _ _ w3 hst)
    clear hst hb3 he3 HF
    go_wp2_with fail
    refine HL.out.mono ?_
    rintro e w4 ⟨r, rfl, hown, he4⟩
    have HO : Hid (Own elInt 3 w.heap.size w4 r (effectL g nm)) := Lib.hid (by rw [HR.out, ← lets_eff]; exact hown.lower HE3.out.size)
    have HE4 := Lib.hid (HE3.out.trans he4)
    clear hown he4 HL
    go_wp2
    go_ret2
    rw [HLE.out]
    exact ⟨_, rfl, HO.out, HE4.out⟩
  · have HR : Hid (effectL g nm = []) := Lib.hid (if_neg hle)
    have e9 : (lvErr g nm != 0) = true := bne_iff_ne.2 hle
    clear hle HF
    generalize hz : lvErr g nm = z at *
    have HZ := Lib.hid hz
    clear hz
    go_wp2
    go_ret2
    rw [HR.out, HZ.out]
    exact ⟨_, rfl, Own.nil _ _ _ _, HE2.out⟩
theorem ledger_folded_n (g : Lg) (v : List Mk) (gv : Value) (A : Option Addr) (n c : Nat) (w : World) (hv : LgV w gv g) (hs : Rd elMk w A v) (hn : v.length = n) (hc : n ≤ c) (hok : ∀ m ∈ v, MkCls g m) (hnd : NoDup g.known) :
    Calls Tryz.prog 106 #[gv, .slice A n c] w fun e w' => ∃ b, e = .returned (.pointer (some ⟨b, 0, none⟩)) ∧ St w' b (seenF g (evsOf g v)) (innF g (evsOf g v)) ∧ w.heap.size ≤ b ∧ Ext w w' := by
  subst hn; exact ledger_folded g v gv A c w hv hs hc hok hnd
theorem evsOf_take (g : Lg) (v : List Mk) (n : Nat) : evsOf g (v.take n) = (evsOf g v).take n := by unfold evsOf; rw [List.map_take]
set_option maxRecDepth 100000 in
set_option maxHeartbeats 4000000 in
theorem ledger_After (g : Lg) (nm : Str) (n : Int) (v : Value) (w : World) (hv : LgV w v g) :
    Calls Tryz.prog 66 #[v, .string nm, .int .i64 n] w fun e w' => ∃ r, e = .returned (.tuple #[r, .int .i64 (afterErr g nm n)]) ∧ Own elInt 3 w.heap.size w' r (afterL g nm n) ∧ Ext w w' := by
  obtain ⟨A0, c0, A1, c1, A2, c2, rfl, h0, h1, h2, r0, r1, r2⟩ := hv.ex
  go_enter Tryz.func66, Tryz.ntmps66
  go_wp2_with (with_reducible refine stop_box ?_)
  refine Stop.go ?_
  refine ev_box3 (c0 := .slice A0 g.known.length c0) (c1 := .slice A1 g.brs.length c1) (c2 := .slice A2 g.evs.length c2) rfl ?_
  intro g1 w1 hb_g1 he hg_g1 k0 k1 k2
  have HE := Lib.hid he
  have HV := Lib.hid (hv.ext he)
  have HVW := Lib.hid (ledger_view g nm _ w1 (hv.ext he))
  clear he r0 r1 r2 hv hb_g1 hg_g1
  go_wp2_with fail
  refine HVW.out.mono ?_
  rintro e w2 ⟨r, rfl, hown, he2⟩
  have HE2 := Lib.hid (HE.out.trans he2)
  replace k0 := he2.cell k0
  replace k1 := he2.cell k1
  replace k2 := he2.cell k2
  obtain ⟨A5, c5, rfl, hc5, hr5⟩ := hown.sl
  have HV2 := Lib.hid (HV.out.ext he2)
  have HR5 := Lib.hid hr5
  clear hown he2 hr5 HVW
  obtain ⟨m, hm⟩ : ∃ m, m = (lvMk g nm).length := ⟨_, rfl⟩
  rw [← hm] at hc5 ⊢
  have HM := Lib.hid hm
  clear hm
  by_cases hle : lvErr g nm = 0
  · by_cases hn : n < 0 ∨ (m : Int) < n
    · have HA : Hid (afterErr g nm n = 2) := Lib.hid (afterErr_arg hle (by rw [← HM.out]; exact hn))
      have HR : Hid (afterL g nm n = []) := Lib.hid (if_neg (by rw [HA.out]; decide))
      rw [hle]
      clear hle
      rcases hn with hn | hn
      · go_wp2
        go_ret2
        rw [HR.out, HA.out]
        exact ⟨_, rfl, Own.nil _ _ _ _, HE2.out⟩
      · have hn0 : ¬ n < 0 := by omega
        go_wp2
        go_ret2
        rw [HR.out, HA.out]
        exact ⟨_, rfl, Own.nil _ _ _ _, HE2.out⟩
    · have HA : Hid (afterErr g nm n = 0) := Lib.hid (afterErr_ok hle (by rw [← HM.out]; exact hn))
      have HR : Hid (afterL g nm n = effL g ((lvEv g nm).take n.toNat)) := Lib.hid (if_pos HA.out)
      have HLE := Lib.hid hle
      rw [hle]
      obtain ⟨k, hk⟩ : ∃ k : Nat, n = k := ⟨n.toNat, by omega⟩
      subst hk
      rw [Int.toNat_natCast] at HR
      have hkm : k ≤ m := by omega
      have hkc : k ≤ c5 := by omega
      have HT : Hid (((lvMk g nm).take k).length = k) := Lib.hid (by rw [List.length_take, ← HM.out]; omega)
      have hn1 : ¬ ((k : Int) < 0) := by omega
      have hn2 : ¬ ((m : Int) < (k : Int)) := by omega
      have HCL : Hid (∀ x ∈ (lvMk g nm).take k, MkCls g x) := Lib.hid fun x hx => lvMk_cls HLE.out x (List.mem_of_mem_take hx)
      clear hle hn
      have y0 : ∀ y : Up w2, y.u.cell? _ = _ := fun y => y.ext.cell k0
      have y1 : ∀ y : Up w2, y.u.cell? _ = _ := fun y => y.ext.cell k1
      have y2 : ∀ y : Up w2, y.u.cell? _ = _ := fun y => y.ext.cell k2
      go_wp2
      refine wp_region_planU [(true, 0), (true, 1), (true, 2), (true, 3), (false, 4), (false, 5), (true, 6), (true, 7)] (by kernel_rfl) (by kernel_rfl) ?_
      iterate 4 ((try go_frame); refine plan_read ?_; go_big_quiet_step (fail); refine wpQuiet_nil ?_)
      refine plan_enter (F := 106) rfl (fun _ _ => by kernel_rfl) (Ext.refl w2).drew ((ledger_folded_n g ((lvMk g nm).take k) _ A5 k c5 w2.drew (HV2.out.ext (Ext.refl w2).drew) ((HR5.out.take k).ext (Ext.refl w2).drew) HT.out hkc HCL.out (lv_nodup HLE.out)).mono ?_)
      rintro e w3 ⟨b, rfl, hst, hb3, he3⟩
      refine ⟨_, rfl, he3, ?_⟩
      have hE3 : Ext w2 w3 := (Ext.refl w2).drew.trans he3
      refine plan_enter (F := 145) rfl (fun _ _ => by kernel_rfl) hE3 ((state_list b _ _ w3 hst).mono ?_)
      rintro e w4 ⟨r, rfl, hown, he4⟩
      refine ⟨_, rfl, he4, ?_⟩
      iterate 2 ((try go_frame); refine plan_read ?_; go_big_quiet_step (fail); refine wpQuiet_nil ?_)
      refine plan_end ?_
      have HO : Hid (Own elInt 3 w.heap.size w4 r (afterL g nm (k : Int))) := Lib.hid (by rw [HR.out, lvEv, ← evsOf_take, ← lets_eff]; exact hown.lower (HE2.out.trans hE3).size)
      have HE4 : Hid (Ext w w4) := Lib.hid (HE2.out.trans (hE3.trans he4))
      clear hown he3 he4 hst hE3 hb3 y0 y1 y2
      go_wp2
      go_ret2
      rw [HA.out]
      exact ⟨_, rfl, HO.out, HE4.out⟩
  · have HA : Hid (afterErr g nm n = lvErr g nm) := Lib.hid (afterErr_bad hle)
    have HR : Hid (afterL g nm n = []) := Lib.hid (if_neg (by rw [HA.out]; exact hle))
    have e9 : (lvErr g nm != 0) = true := bne_iff_ne.2 hle
    clear hle
    generalize hz : lvErr g nm = z at *
    have HZ := Lib.hid hz
    clear hz
    go_wp2
    go_ret2
    rw [HR.out, HA.out]
    exact ⟨_, rfl, Own.nil _ _ _ _, HE2.out⟩
end Go.Proofs.YtgibdafkidkahaaGreatDoor
