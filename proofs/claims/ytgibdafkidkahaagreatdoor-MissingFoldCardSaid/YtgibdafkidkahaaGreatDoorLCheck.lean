/- Derived: walks: the error of a ledger. -/
import Derived.Test.YtgibdafkidkahaaGreatDoorBegin
import Derived.Test.YtgibdafkidkahaaGreatDoorEvs
import Derived.Test.YtgibdafkidkahaaGreatDoorCheckB
set_option linter.unusedVariables false
set_option linter.unusedSimpArgs false
namespace Go.Proofs.YtgibdafkidkahaaGreatDoor
open Go.RowKit

theorem vw_br {l : List Br} (hl : checkB l = 0) {cnt : List Int} : ∀ i, i < l.length → ∀ m ∈ vw l cnt i, m.br ≤ i := by
  intro i
  induction i using Nat.strongRecOn with
  | _ i ih =>
    intro hi m hm
    have hx : l[i]? = some l[i] := List.getElem?_eq_getElem hi
    generalize l[i] = x at hx
    rw [vw_eq] at hm
    rcases List.mem_append.1 hm with hm | hm
    · rcases (show i = 0 ∨ 0 < i by omega) with h0 | h0
      · unfold vpre at hm; rw [if_pos h0] at hm; simp at hm
      · obtain ⟨ha, hb⟩ := idx_from hl hx h0
        obtain ⟨j, hj⟩ : ∃ j : Nat, idx l x.frm = j := ⟨(idx l x.frm).toNat, by omega⟩
        rw [vpre_stem hl hx h0 hj (by omega)] at hm
        have := ih j (by omega) (by omega) m (List.mem_of_mem_take hm)
        omega
    · unfold ownMks at hm
      rw [List.mem_map] at hm
      obtain ⟨k, hk, rfl⟩ := hm
      exact Int.le_refl _
theorem vpre_br {l : List Br} (hl : checkB l = 0) {cnt : List Int} {i : Nat} (hi : i < l.length) : ∀ m ∈ vpre l cnt i, m.br < i := by
  intro m hm
  have hx : l[i]? = some l[i] := List.getElem?_eq_getElem hi
  generalize l[i] = x at hx
  rcases (show i = 0 ∨ 0 < i by omega) with h0 | h0
  · unfold vpre at hm; rw [if_pos h0] at hm; simp at hm
  · obtain ⟨ha, hb⟩ := idx_from hl hx h0
    obtain ⟨j, hj⟩ : ∃ j : Nat, idx l x.frm = j := ⟨(idx l x.frm).toNat, by omega⟩
    rw [vpre_stem hl hx h0 hj (by omega)] at hm
    have := vw_br hl (cnt := cnt) j (by omega) m (List.mem_of_mem_take hm)
    omega
theorem cls_lt {g : Lg} (h : S2 g) (s : Str) : -1 ≤ cls g s ∧ cls g s < 30 := by
  rcases cls_cases g s with ⟨h1, _⟩ | ⟨x, hx, _, hc⟩
  · omega
  · have := List.any_eq_false.1 h.2 x hx
    simp [badKn] at this
    omega
theorem mkCls_of {g : Lg} (h : S6 g) {k : Nat} (hk : k < g.brs.length) (hok : ∀ j, j < k → okBr g j = true) : ∀ m ∈ vpre g.brs (cnts g) k, MkCls g m := by
  intro m hm
  have hck := h.1.1.1.2
  have hmo := vpre_ok hck h.1.1.2 hk m hm
  have hbr := vpre_br hck hk m hm
  obtain ⟨i, j, own, e, hi, hj, hown, hev, hat⟩ := hmo.get
  have ho := hok i (by omega)
  unfold okBr at ho
  rw [List.getD_eq_getElem?_getD, hown, Option.getD_some, okEvs_iff] at ho
  refine ⟨hmo, ?_, (cls_lt h.1.1.1.1 _).2⟩
  rw [hat]
  exact (ho j e hev).1
set_option maxRecDepth 100000 in
set_option maxHeartbeats 8000000 in
theorem ledger_Check (g : Lg) (v : Value) (w : World) (hv : LgV w v g) :
    Calls Tryz.prog 146 #[v] w fun e w' => e = .returned (.int .i64 (checkL g)) ∧ Ext w w' := by
  obtain ⟨A0, c0, A1, c1, A2, c2, rfl, h0, h1, h2, r0, r1, r2⟩ := hv.ex
  have hm0 := r0.1
  go_enter Tryz.func146, Tryz.ntmps146
  go_wp2_with (with_reducible refine stop_box ?_)
  refine Stop.go ?_
  refine ev_box3 (c0 := .slice A0 g.known.length c0) (c1 := .slice A1 g.brs.length c1) (c2 := .slice A2 g.evs.length c2) rfl ?_
  intro g1 w1 hb_g1 he hg_g1 k0 k1 k2
  have HE := Lib.hid he
  have HV := Lib.hid (hv.ext he)
  have R0 := Lib.hid (r0.ext he)
  have R1 := Lib.hid (r1.ext he)
  have R2 := Lib.hid (r2.ext he)
  clear he r0 r1 r2 hv hb_g1 hg_g1
  by_cases h30 : 30 < g.known.length
  · have HR := Lib.hid (checkL_many h30)
    go_wp2
    go_ret
    exact ⟨ret_int HR.out.symm, HE.out⟩
  · have HCL := Lib.hid (ledger_classes g _ w1 HV.out)
    go_wp2_with fail
    refine HCL.out.mono ?_
    rintro e w2 ⟨bm, rfl, hmap, hbm, he2⟩
    have hle := clsMap_le g.known
    have hlen : ∀ ty, (Builtin.len_ #[171] ty #[.map (some bm)]).run Tryz.prog w2 = .ok (.int .i64 ((clsMap g.known).length : Nat)) w2 := fun ty => run_mlen Tryz.underlying171 hmap ty
    have HND : Hid ((clsMap g.known).length = g.known.length ↔ NoDup g.known) := Lib.hid clsMap_nodup
    have HMAP := Lib.hid hmap
    have HE2 := Lib.hid he2
    replace k0 := he2.cell k0
    replace k1 := he2.cell k1
    replace k2 := he2.cell k2
    clear hmap he2 hbm HCL
    generalize (clsMap g.known).length = nl at hlen HND hle
    by_cases hdup : nl < g.known.length
    · have HR : Hid (checkL g = 14) := Lib.hid (checkL_dup h30 (by
        cases hd : dupKn g.known with
        | true => rfl
        | false => have := HND.out.2 (noDup_of hd); omega))
      go_wp2
      go_ret
      exact ⟨ret_int HR.out.symm, HE.out.trans HE2.out⟩
    · have hnd : NoDup g.known := HND.out.1 (by omega)
      have HS1 : Hid (S1 g) := Lib.hid ⟨h30, dupKn_f hnd⟩
      have HND2 := Lib.hid hnd
      clear hnd HND
      go_wp2
      go_loopw [30] (fun i wr => ∃ k : Nat, k ≤ g.known.length ∧ i = .int .i64 (k : Int) ∧ Hid (∀ (i : Nat) (x : Kn), i < k → g.known[i]? = some x → badKn x = false) ∧ Hid (Ext w2 wr)) (fun i _ => g.known.length - (intOf i).toNat)
      case atStart => exact ⟨0, Nat.zero_le _, rfl, fun i x h => absurd h (by omega), Ext.refl _⟩
      case round =>
        clear hlen
        obtain ⟨k, hk, rfl, hn, hE⟩ := hrel
        by_cases hlt : k < g.known.length
        · have hx : g.known[k]? = some g.known[k] := List.getElem?_eq_getElem hlt
          generalize g.known[k] = x at hx
          obtain ⟨ad, rfl, q0, q1⟩ := (R0.out.ext (HE2.out.trans hE.out)).kn hx
          have HX := Lib.hid hx
          have HB : Hid (badKn x = true → checkL g = 8) := Lib.hid fun h => checkL_bad HS1.out (List.any_eq_true.2 ⟨x, List.mem_of_getElem? HX.out, h⟩)
          have HNM : Hid (∀ w, _) := Lib.hid (ledger_isName x.chg)
          clear hx
          have HEw : Hid (Ext w wr) := Lib.hid (HE.out.trans (HE2.out.trans hE.out))
          cases hnm : nameOk x.chg with
          | false =>
            have HR : Hid (checkL g = 8) := Lib.hid (HB.out (by simp [badKn, hnm]))
            rw [hnm] at HNM
            clear hnm
            go_wp2_with (first | ((with_reducible refine ev_var (v := .agg #[.string x.chg, .int .i64 x.cls]) _ zKn ?hd ?hx ?hs ?h1 ?_); (case hd => exact fun _ => rfl); (case hx => exact fun _ => rfl); (case hs => rfl); (case h1 => exact one2 rfl rfl); intro gx w4 hb he hgx; have m0 := (blk_cell hb 0).trans rfl; have m1 := (blk_cell hb 1).trans rfl))
            refine (HNM.out w4).mono ?_
            rintro e w5 ⟨rfl, he5⟩
            have HE5 : Hid (Ext w w5) := Lib.hid (HEw.out.trans (he.trans he5))
            clear he he5
            go_wp2
            go_ret
            exact ⟨ret_int HR.out.symm, HE5.out⟩
          | true =>
            rw [hnm] at HNM
            by_cases hc0 : x.cls < 0
            · have HR : Hid (checkL g = 8) := Lib.hid (HB.out (by simp [badKn, hc0]))
              clear hnm
              go_wp2_with (first | ((with_reducible refine ev_var (v := .agg #[.string x.chg, .int .i64 x.cls]) _ zKn ?hd ?hx ?hs ?h1 ?_); (case hd => exact fun _ => rfl); (case hx => exact fun _ => rfl); (case hs => rfl); (case h1 => exact one2 rfl rfl); intro gx w4 hb he hgx; have m0 := (blk_cell hb 0).trans rfl; have m1 := (blk_cell hb 1).trans rfl))
              refine (HNM.out w4).mono ?_
              rintro e w5 ⟨rfl, he5⟩
              have m1' := he5.cell m1
              have HE5 : Hid (Ext w w5) := Lib.hid (HEw.out.trans (he.trans he5))
              clear he he5
              go_wp2
              go_ret
              exact ⟨ret_int HR.out.symm, HE5.out⟩
            · by_cases hc30 : 30 ≤ x.cls
              · have HR : Hid (checkL g = 8) := Lib.hid (HB.out (by simp [badKn, hc30]))
                clear hnm
                go_wp2_with (first | ((with_reducible refine ev_var (v := .agg #[.string x.chg, .int .i64 x.cls]) _ zKn ?hd ?hx ?hs ?h1 ?_); (case hd => exact fun _ => rfl); (case hx => exact fun _ => rfl); (case hs => rfl); (case h1 => exact one2 rfl rfl); intro gx w4 hb he hgx; have m0 := (blk_cell hb 0).trans rfl; have m1 := (blk_cell hb 1).trans rfl))
                refine (HNM.out w4).mono ?_
                rintro e w5 ⟨rfl, he5⟩
                have m1' := he5.cell m1
                have HE5 : Hid (Ext w w5) := Lib.hid (HEw.out.trans (he.trans he5))
                clear he he5
                go_wp2
                go_ret
                exact ⟨ret_int HR.out.symm, HE5.out⟩
              · have HG : Hid (badKn x = false) := Lib.hid (by simp [badKn, hnm, hc0, hc30])
                clear hnm
                go_wp2_with (first | ((with_reducible refine ev_var (v := .agg #[.string x.chg, .int .i64 x.cls]) _ zKn ?hd ?hx ?hs ?h1 ?_); (case hd => exact fun _ => rfl); (case hx => exact fun _ => rfl); (case hs => rfl); (case h1 => exact one2 rfl rfl); intro gx w4 hb he hgx; have m0 := (blk_cell hb 0).trans rfl; have m1 := (blk_cell hb 1).trans rfl))
                refine (HNM.out w4).mono ?_
                rintro e w5 ⟨rfl, he5⟩
                have m1' := he5.cell m1
                have HE5 : Hid (Ext w2 w5) := Lib.hid (hE.out.trans (he.trans he5))
                clear he he5 m0 m1 hb hE HEw
                go_wp2
                go_roundw
                case rel =>
                  refine ⟨k + 1, by omega, by go_num, fun j y hj hy => ?_, HE5.out⟩
                  rcases Nat.lt_succ_iff_lt_or_eq.1 hj with h | rfl
                  · exact hn.out j y h hy
                  · rw [HX.out] at hy; cases hy; exact HG.out
                case measure => simp [intOf]; omega
        · have hS2 : S2 g := ⟨HS1.out, by
            rw [List.any_eq_false]
            intro x hx
            obtain ⟨i, hi⟩ := List.getElem?_of_mem hx
            rw [hn.out i x (by have := (List.getElem?_eq_some_iff.1 hi).1; omega) hi]; simp⟩
          have HS2 := Lib.hid hS2
          clear hS2 hn HS1
          have HE3 : Hid (Ext w1 wr) := Lib.hid (HE2.out.trans hE.out)
          have HMAP3 : Hid (MapSI wr bm (clsMap g.known)) := Lib.hid (IsMap.ext HMAP.out hE.out)
          have k0' := hE.out.cell k0
          have k1' := hE.out.cell k1
          have k2' := hE.out.cell k2
          have HCB := Lib.hid (branch_Check g.brs A1 c1 wr (R1.out.ext HE3.out) h1)
          clear hE HMAP
          by_cases hcb : checkB g.brs = 0
          · have HS3 : Hid (S3 g) := Lib.hid ⟨HS2.out, hcb⟩
            rw [hcb] at HCB
            have hb8 : g.brs.length ≤ 8 := (checkB_zero hcb).1
            have HCK := Lib.hid hcb
            clear hcb HS2
            by_cases hlen : g.evs.length = g.brs.length
            · have e1 : ((g.evs.length : Int) != (g.brs.length : Int)) = false := by rw [hlen]; simp
              have hev8 : g.evs.length ≤ 8 := by omega
              have HS4 : Hid (S4 g) := Lib.hid ⟨HS3.out, hlen⟩
              have HLEN := Lib.hid hlen
              clear hlen HS3
              go_wp2_with fail
              refine HCB.out.mono ?_
              rintro e w4 ⟨rfl, he4⟩
              replace k0' := he4.cell k0'
              replace k1' := he4.cell k1'
              replace k2' := he4.cell k2'
              have HE4 : Hid (Ext w1 w4) := Lib.hid (HE3.out.trans he4)
              have HMAP4 : Hid (MapSI w4 bm (clsMap g.known)) := Lib.hid (IsMap.ext HMAP3.out he4)
              have HCF := Lib.hid (ContainsFunc_Evs g.evs A2 c2 w4 (R2.out.ext HE4.out))
              clear he4 HCB HE3 HMAP3
              cases hany : g.evs.any tooLong with
              | true =>
                have HR : Hid (checkL g = 4) := Lib.hid (checkL_evs HS4.out hany)
                rw [hany] at HCF
                clear hany
                go_wp2_with fail
                refine HCF.out.mono ?_
                rintro e w5 ⟨rfl, he5⟩
                have HE5 : Hid (Ext w w5) := Lib.hid (HE.out.trans (HE4.out.trans he5))
                clear he5
                go_wp2
                go_ret
                exact ⟨ret_int HR.out.symm, HE5.out⟩
              | false =>
                have HS5 : Hid (S5 g) := Lib.hid ⟨HS4.out, hany⟩
                rw [hany] at HCF
                clear hany HS4
                go_wp2_with fail
                refine HCF.out.mono ?_
                rintro e w5 ⟨rfl, he5⟩
                replace k0' := he5.cell k0'
                replace k1' := he5.cell k1'
                replace k2' := he5.cell k2'
                have HE5 : Hid (Ext w1 w5) := Lib.hid (HE4.out.trans he5)
                have HMAP5 : Hid (MapSI w5 bm (clsMap g.known)) := Lib.hid (IsMap.ext HMAP4.out he5)
                have HCNT := Lib.hid (ledger_counts g _ w5.drew (HV.out.ext HE5.out.drew) (by omega))
                clear he5 HCF HE4 HMAP4
                have y0 : ∀ y : Up w5, y.u.cell? _ = _ := fun y => y.ext.cell k0'
                have y1 : ∀ y : Up w5, y.u.cell? _ = _ := fun y => y.ext.cell k1'
                have y2 : ∀ y : Up w5, y.u.cell? _ = _ := fun y => y.ext.cell k2'
                go_wp2
                by_cases hft : fitsB g.brs (cnts g) = 0
                · refine wp_region_planU [(true, 0), (true, 1), (true, 2), (false, 3), (false, 4), (true, 5)] (by kernel_rfl) (by kernel_rfl) ?_
                  iterate 3 ((try go_frame); refine plan_read ?_; go_big_quiet_step (fail); refine wpQuiet_nil ?_)
                  refine plan_enter (F := 135) rfl (fun _ _ => by kernel_rfl) (Ext.refl w5).drew (HCNT.out.mono ?_)
                  rintro e w6 ⟨r, rfl, hfr, he6⟩
                  refine ⟨_, rfl, he6, ?_⟩
                  have hE6 : Ext w5 w6 := (Ext.refl w5).drew.trans he6
                  obtain ⟨A3, c3, rfl, hc3, hr3⟩ := hfr.sl
                  refine plan_enter (F := 193) rfl (fun _ _ => by kernel_rfl) hE6 ((branch_Fits g.brs (cnts g) A1 A3 c1 c3 w6 (R1.out.ext (HE5.out.trans hE6)) hr3 h1).mono ?_)
                  rintro e w7 ⟨rfl, he7⟩
                  refine ⟨_, rfl, he7, ?_⟩
                  ((try go_frame); refine plan_read ?_; go_big_quiet_step (fail); refine wpQuiet_nil ?_)
                  refine plan_end ?_
                  have hE7 : Ext w5 w7 := hE6.trans he7
                  have HE7 : Hid (Ext w1 w7) := Lib.hid (HE5.out.trans hE7)
                  have HMAP7 : Hid (MapSI w7 bm (clsMap g.known)) := Lib.hid (IsMap.ext HMAP5.out hE7)
                  replace k0' := hE7.cell k0'
                  replace k1' := hE7.cell k1'
                  replace k2' := hE7.cell k2'
                  have HS6 : Hid (S6 g) := Lib.hid ⟨HS5.out, hft⟩
                  rw [hft]
                  clear hfr he6 he7 hE6 hE7 hr3 hc3 hft HCNT HS5 y0 y1 y2 HE5 HMAP5
                  go_wp2
                  go_loopw [76] (fun ix wr => ∃ k : Nat, k ≤ g.evs.length ∧ ix = .int .i64 (k : Int) ∧ Hid (∀ j, j < k → okBr g j = true) ∧ Hid (Ext w7 wr)) (fun i _ => g.evs.length - (intOf i).toNat)
                  case atStart => exact ⟨0, Nat.zero_le _, rfl, fun j h => absurd h (by omega), Ext.refl _⟩
                  case round =>
                    obtain ⟨k, hk, rfl, hn, hE⟩ := hrel
                    have hE1 : Ext w1 wr := HE7.out.trans hE.out
                    by_cases hlt : k < g.evs.length
                    · have hkb : k < g.brs.length := by have := HLEN.out; omega
                      have hown : g.evs[k]? = some g.evs[k] := List.getElem?_eq_getElem hlt
                      generalize g.evs[k] = own at hown
                      obtain ⟨ad2, D, cD, rfl, q0, hcD, q1⟩ := (R2.out.ext hE1).sub hown
                      have HOWN := Lib.hid hown
                      have hmc := mkCls_of HS6.out hkb hn.out
                      have HBG := Lib.hid (ledger_begin g k bm _ wr (HV.out.ext hE1) HS6.out hkb (IsMap.ext HMAP7.out hE.out) hmc)
                      have k0'' := hE.out.cell k0'
                      have k1'' := hE.out.cell k1'
                      have k2'' := hE.out.cell k2'
                      have ho9 := q1.1
                      have HQ1 := Lib.hid q1
                      obtain ⟨wo, hwo⟩ : ∃ wo : World, wo = wr := ⟨_, rfl⟩
                      subst hwo
                      clear hown hmc hE1 q1
                      go_wp2_with fail
                      refine HBG.out.mono ?_
                      rintro e w8 ⟨b, rfl, hst8, hb8', he8⟩
                      have HB : Hid (wo.heap.size ≤ b) := Lib.hid hb8'
                      have HST8 : Hid (St w8 b (seenF g (baseEvs g k ++ own.take 0)) (innF g (baseEvs g k ++ own.take 0))) := Lib.hid (by rw [List.take_zero, List.append_nil]; exact hst8)
                      have HE8 := Lib.hid he8
                      clear hst8 hb8' he8 HBG k0'' k1'' k2'' q0
                      go_wp2
                      go_loopw [87] (fun ix wr => ∃ t : Nat, t ≤ own.length ∧ ix = .int .i64 (t : Int) ∧ Hid (St wr b (seenF g (baseEvs g k ++ own.take t)) (innF g (baseEvs g k ++ own.take t))) ∧ Hid (∀ (j : Nat) (e : Ev), j < t → own[j]? = some e → 0 ≤ cls g e.chg ∧ allowed g (baseEvs g k ++ own.take j) e = 0) ∧ Hid (Ext wo wr)) (fun i _ => own.length - (intOf i).toNat)
                      case atStart => exact ⟨0, Nat.zero_le _, rfl, HST8.out, fun j e h => absurd h (by omega), HE8.out⟩
                      case round =>
                        clear HST8 HE8
                        obtain ⟨t, ht, rfl, HST, hn3, hEc⟩ := hrel
                        by_cases hlt3 : t < own.length
                        · have hev : own[t]? = some own[t] := List.getElem?_eq_getElem hlt3
                          generalize own[t] = ev at hev
                          obtain ⟨ad6, rfl, z3, z4⟩ := (HQ1.out.ext hEc.out).ev hev
                          have HEVT := Lib.hid hev
                          have hmapr : MapSI wr bm (clsMap g.known) := IsMap.ext HMAP7.out (hE.out.trans hEc.out)
                          have HMR := Lib.hid hmapr
                          have HBAD : Hid (¬ (0 ≤ cls g ev.chg ∧ allowed g (baseEvs g k ++ own.take t) ev = 0) → checkL g = 8) := Lib.hid (by
                            intro hb
                            refine checkL_ev HS6.out hkb ?_
                            rw [Bool.eq_false_iff]
                            intro hok
                            unfold okBr at hok
                            rw [List.getD_eq_getElem?_getD, HOWN.out, Option.getD_some, okEvs_iff] at hok
                            exact hb (hok t ev HEVT.out))
                          have HNX : Hid (0 ≤ cls g ev.chg ∧ allowed g (baseEvs g k ++ own.take t) ev = 0 → ∀ (j : Nat) (e : Ev), j < t + 1 → own[j]? = some e → 0 ≤ cls g e.chg ∧ allowed g (baseEvs g k ++ own.take j) e = 0) := Lib.hid (by
                            intro h j e hj he
                            rcases Nat.lt_succ_iff_lt_or_eq.1 hj with h1 | rfl
                            · exact hn3.out j e h1 he
                            · rw [HEVT.out] at he; cases he; exact h)
                          have HWE : Hid (Ext w wr) := Lib.hid (HE.out.trans (HE7.out.trans (hE.out.trans hEc.out)))
                          have HCLT := Lib.hid (cls_lt HS6.out.1.1.1.1 ev.chg)
                          clear hev hmapr
                          by_cases hz : 0 ≤ cls g ev.chg
                          · obtain ⟨cc, hcc⟩ : ∃ cc : Nat, cls g ev.chg = cc := ⟨(cls g ev.chg).toNat, by omega⟩
                            have hcc30 : cc < 30 := by have := HCLT.out.2; omega
                            have HMG := Lib.hid ((cls_map HND2.out hz).trans (by rw [hcc]))
                            have HAL : Hid (allowS (seenF g (baseEvs g k ++ own.take t) cc) (innF g (baseEvs g k ++ own.take t) cc) ev.kind = allowed g (baseEvs g k ++ own.take t) ev) := Lib.hid (by unfold allowed seenF innF; rw [hcc])
                            have hTT : baseEvs g k ++ own.take (t + 1) = (baseEvs g k ++ own.take t) ++ [ev] := by rw [List.take_add_one, HEVT.out]; simp
                            have HSN := Lib.hid (hTT ▸ seenF_snoc (s := baseEvs g k ++ own.take t) hcc)
                            have HIN := Lib.hid (hTT ▸ innF_snoc (s := baseEvs g k ++ own.take t) hcc)
                            have HZ := Lib.hid hz
                            clear hz hcc hTT
                            have hlk : ∀ w2, Ext wr w2 → (Instr.lookup 171 (.map (some bm)) (.string ev.chg) true).run Tryz.prog w2 = .ok (.tuple #[.int .i64 (cc : Int), .bool true]) w2 := fun w2 h2 => by
                              have := MapSI.look2 (IsMap.ext HMR.out h2) ev.chg
                              rw [HMG.out] at this
                              exact this
                            have HLK := Lib.hid hlk
                            clear hlk HMR HMG
                            go_wp2_with (first | ((with_reducible refine ev_var (v := .agg #[.int .u8 ev.kind, .string ev.chg]) _ zEv ?hd ?hx ?hs ?h1 ?_); (case hd => exact fun _ => rfl); (case hx => exact fun _ => rfl); (case hs => rfl); (case h1 => exact one2 rfl rfl); intro gx w9 hb he hgx; have m0 := (blk_cell hb 0).trans rfl; have m1 := (blk_cell hb 1).trans rfl; have hlk := HLK.out w9 he; have HST9 := Lib.hid (he.blk HST.out); have HE9 := Lib.hid (hEc.out.trans he); have HW9 := Lib.hid (HWE.out.trans he); clear he hb hgx HLK HST))
                            clear hlk
                            obtain ⟨al, hal⟩ : ∃ al, al = allowed g (baseEvs g k ++ own.take t) ev := ⟨_, rfl⟩
                            have HAL2 : Hid (allowS (seenF g (baseEvs g k ++ own.take t) cc) (innF g (baseEvs g k ++ own.take t) cc) ev.kind = al) := Lib.hid (HAL.out.trans hal.symm)
                            have HA := Lib.hid hal
                            have HCA := Lib.hid (state_allow b cc _ _ ev.kind w9 HST9.out hcc30)
                            rw [HAL2.out] at HCA
                            clear hal HAL HAL2
                            by_cases hz0 : al = 0
                            · subst hz0
                              have HN2 := Lib.hid (HNX.out ⟨HZ.out, HA.out.symm⟩)
                              clear HBAD HNX
                              go_wp2_with fail
                              refine HCA.out.mono ?_
                              rintro e wz ⟨rfl, rfl⟩
                              go_wp2_with fail
                              refine (state_put b cc _ _ ev.kind w9 HST9.out hcc30).mono ?_
                              rintro e w10 ⟨rfl, hs10, ht10⟩
                              have HST10 : Hid (St w10 b (seenF g (baseEvs g k ++ own.take (t + 1))) (innF g (baseEvs g k ++ own.take (t + 1)))) := Lib.hid (by rw [HSN.out, HIN.out]; exact hs10)
                              have HE10 : Hid (Ext wo w10) := Lib.hid (ht10.ext HE9.out HB.out)
                              clear hs10 ht10 HCA m0 m1 HST9
                              go_wp2
                              go_roundw
                              case rel => exact ⟨t + 1, by omega, by go_num, HST10.out, HN2.out, HE10.out⟩
                              case measure => simp [intOf]; omega
                            · have HR : Hid (checkL g = 8) := Lib.hid (HBAD.out (fun h => hz0 (HA.out.trans h.2)))
                              have e9 : (al != 0) = true := bne_iff_ne.2 hz0
                              clear HBAD HNX hz0 HA
                              go_wp2_with fail
                              refine HCA.out.mono ?_
                              rintro e wz ⟨rfl, rfl⟩
                              go_wp2
                              go_ret
                              exact ⟨ret_int HR.out.symm, HW9.out⟩
                          · have HR : Hid (checkL g = 8) := Lib.hid (HBAD.out (by omega))
                            have HMG : Hid (mget (clsMap g.known) ev.chg = none) := Lib.hid (by
                              rcases cls_cases g ev.chg with ⟨_, hne⟩ | ⟨x, hx, he, hc⟩
                              · exact clsMap_none hne
                              · have := List.any_eq_false.1 HS6.out.1.1.1.1.2 x hx
                                simp [badKn] at this
                                omega)
                            clear hz HBAD HNX
                            have hlk : ∀ w2, Ext wr w2 → (Instr.lookup 171 (.map (some bm)) (.string ev.chg) true).run Tryz.prog w2 = .ok (.tuple #[.int .i64 0, .bool false]) w2 := fun w2 h2 => by
                              have := MapSI.look2 (IsMap.ext HMR.out h2) ev.chg
                              rw [HMG.out] at this
                              exact this
                            have HLK := Lib.hid hlk
                            clear hlk HMR HMG
                            go_wp2_with (first | ((with_reducible refine ev_var (v := .agg #[.int .u8 ev.kind, .string ev.chg]) _ zEv ?hd ?hx ?hs ?h1 ?_); (case hd => exact fun _ => rfl); (case hx => exact fun _ => rfl); (case hs => rfl); (case h1 => exact one2 rfl rfl); intro gx w9 hb he hgx; have m0 := (blk_cell hb 0).trans rfl; have m1 := (blk_cell hb 1).trans rfl; have hlk := HLK.out w9 he; have HW9 := Lib.hid (HWE.out.trans he); clear he hb hgx HLK))
                            go_ret
                            exact ⟨ret_int HR.out.symm, HW9.out⟩
                        · have hOK : okBr g k = true := by
                            unfold okBr
                            rw [List.getD_eq_getElem?_getD, HOWN.out, Option.getD_some, okEvs_iff]
                            intro j e he
                            exact hn3.out j e (by have := (List.getElem?_eq_some_iff.1 he).1; omega) he
                          have HOK : Hid (∀ j, j < k + 1 → okBr g j = true) := Lib.hid (by
                            intro j hj
                            rcases Nat.lt_succ_iff_lt_or_eq.1 hj with h | rfl
                            · exact hn.out j h
                            · exact hOK)
                          have HEo : Hid (Ext w7 wr) := Lib.hid (hE.out.trans hEc.out)
                          clear hOK hn3
                          go_wp2
                          go_roundw
                          case rel => exact ⟨k + 1, by omega, by go_num, HOK.out, HEo.out⟩
                          case measure => simp [intOf]; omega
                    · have HR : Hid (checkL g = 0) := Lib.hid (checkL_ok HS6.out fun i hi => hn.out i (by have := HLEN.out; omega))
                      have HEe : Hid (Ext w wr) := Lib.hid (HE.out.trans hE1)
                      clear hE1
                      go_wp2
                      go_ret
                      exact ⟨ret_int HR.out.symm, HEe.out⟩
                · have HR : Hid (checkL g = fitsB g.brs (cnts g)) := Lib.hid (checkL_fits HS5.out hft)
                  have e9 : (fitsB g.brs (cnts g) != 0) = true := by rw [bne_iff_ne]; exact hft
                  refine wp_region_planU [(true, 0), (true, 1), (true, 2), (false, 3), (false, 4), (true, 5)] (by kernel_rfl) (by kernel_rfl) ?_
                  iterate 3 ((try go_frame); refine plan_read ?_; go_big_quiet_step (fail); refine wpQuiet_nil ?_)
                  refine plan_enter (F := 135) rfl (fun _ _ => by kernel_rfl) (Ext.refl w5).drew (HCNT.out.mono ?_)
                  rintro e w6 ⟨r, rfl, hfr, he6⟩
                  refine ⟨_, rfl, he6, ?_⟩
                  have hE6 : Ext w5 w6 := (Ext.refl w5).drew.trans he6
                  obtain ⟨A3, c3, rfl, hc3, hr3⟩ := hfr.sl
                  refine plan_enter (F := 193) rfl (fun _ _ => by kernel_rfl) hE6 ((branch_Fits g.brs (cnts g) A1 A3 c1 c3 w6 (R1.out.ext (HE5.out.trans hE6)) hr3 h1).mono ?_)
                  rintro e w7 ⟨rfl, he7⟩
                  refine ⟨_, rfl, he7, ?_⟩
                  ((try go_frame); refine plan_read ?_; go_big_quiet_step (fail); refine wpQuiet_nil ?_)
                  refine plan_end ?_
                  have HE7 : Hid (Ext w w7) := Lib.hid (HE.out.trans (HE5.out.trans (hE6.trans he7)))
                  clear hfr he6 he7 hE6 hr3 hc3 hft HCNT y0 y1 y2
                  generalize fitsB g.brs (cnts g) = z at *
                  go_wp2
                  go_ret
                  exact ⟨ret_int HR.out.symm, HE7.out⟩
            · have e1 : ((g.evs.length : Int) != (g.brs.length : Int)) = true := by rw [bne_iff_ne]; omega
              have HR : Hid (checkL g = 2) := Lib.hid (checkL_len HS3.out hlen)
              clear hlen
              go_wp2_with fail
              refine HCB.out.mono ?_
              rintro e w4 ⟨rfl, he4⟩
              replace k0' := he4.cell k0'
              replace k1' := he4.cell k1'
              replace k2' := he4.cell k2'
              have HE4 : Hid (Ext w w4) := Lib.hid (HE.out.trans (HE3.out.trans he4))
              clear he4
              go_wp2
              go_ret
              exact ⟨ret_int HR.out.symm, HE4.out⟩
          · have HR := Lib.hid (checkL_br HS2.out hcb)
            have e1 : (checkB g.brs != 0) = true := by rw [bne_iff_ne]; exact hcb
            clear hcb
            generalize checkB g.brs = z at *
            go_wp2_with fail
            refine HCB.out.mono ?_
            rintro e w4 ⟨rfl, he4⟩
            have HE4 : Hid (Ext w w4) := Lib.hid (HE.out.trans (HE3.out.trans he4))
            clear he4
            go_wp2
            go_ret
            exact ⟨ret_int HR.out.symm, HE4.out⟩
end Go.Proofs.YtgibdafkidkahaaGreatDoor
