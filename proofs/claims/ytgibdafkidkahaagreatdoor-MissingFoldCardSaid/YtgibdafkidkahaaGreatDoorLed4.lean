/- Derived: walks: the reference of layer 29: the error of a ledger. -/
import Derived.Test.YtgibdafkidkahaaGreatDoorLed2
import Derived.Test.YtgibdafkidkahaaGreatDoorLed3
set_option linter.unusedVariables false
set_option linter.unusedSimpArgs false
namespace Go.Proofs.YtgibdafkidkahaaGreatDoor
open Go.RowKit

theorem ref29_allowed_n (g : Lg) (s : List Ev) (x : Ev) (v : Value) (A : Option Addr) (n c : Nat) (w : World) (hv : LgV w v g) (hs : Rd elEv w A s) (hn : s.length = n) (hc : n ≤ c) :
    Calls Tryz.prog 111 #[v, .slice A n c, .agg #[.int .u8 x.kind, .string x.chg]] w fun e w' => e = .returned (.int .i64 (allowed g s x)) ∧ Ext w w' := by
  subst hn; exact ref29_allowed g s x v A c w hv hs hc
set_option maxRecDepth 100000 in
set_option maxHeartbeats 8000000 in
theorem ref29_Check (g : Lg) (v : Value) (w : World) (hv : LgV w v g) :
    Calls Tryz.prog 39 #[v] w fun e w' => e = .returned (.int .i64 (checkL g)) ∧ Ext w w' := by
  obtain ⟨A0, c0, A1, c1, A2, c2, rfl, h0, h1, h2, r0, r1, r2⟩ := hv.ex
  go_enter Tryz.func39, Tryz.ntmps39
  go_wp2_with (with_reducible refine stop_box ?_)
  refine Stop.go ?_
  refine ev_box3 (c0 := .slice A0 g.known.length c0) (c1 := .slice A1 g.brs.length c1) (c2 := .slice A2 g.evs.length c2) rfl ?_
  intro g1 w1 hb_g1 he hg_g1 k0 k1 k2
  have HE := Lib.hid he
  have HV := Lib.hid (hv.ext he)
  have R0 := Lib.hid (r0.ext he)
  have R1 := Lib.hid (r1.ext he)
  have R2 := Lib.hid (r2.ext he)
  clear he r0 r1 r2 hv hb_g1 hg_g1
  by_cases h30 : 30 < g.known.length
  · have HR := Lib.hid (checkL_many h30)
    go_wp2
    go_ret
    exact ⟨ret_int HR.out.symm, HE.out⟩
  · go_wp2
    go_loopw [3] (fun i wr => ∃ k : Nat, k ≤ g.known.length ∧ i = .int .i64 (k : Int) ∧ Hid (∀ (i j : Nat) (x y : Kn), i < k → j < i → g.known[i]? = some x → g.known[j]? = some y → y.chg ≠ x.chg) ∧ Hid (Ext w1 wr)) (fun i _ => g.known.length - (intOf i).toNat)
    case atStart => exact ⟨0, Nat.zero_le _, rfl, fun i j x y h => absurd h (by omega), Ext.refl _⟩
    case round =>
      obtain ⟨k, hk, rfl, hn, hE⟩ := hrel
      have k0' := hE.out.cell k0
      by_cases hlt : k < g.known.length
      · have hx : g.known[k]? = some g.known[k] := List.getElem?_eq_getElem hlt
        generalize g.known[k] = x at hx
        obtain ⟨ad, rfl, q0, q1⟩ := R0.out.kn hx
        have HX := Lib.hid hx
        clear hx
        obtain ⟨wo, hwo⟩ : ∃ wo : World, wo = wr := ⟨_, rfl⟩
        subst hwo
        go_wp2
        go_loopw [4] (fun i wc => ∃ j : Nat, j ≤ k ∧ i = .int .i64 (j : Int) ∧ Hid (∀ (i : Nat) (y : Kn), i < j → g.known[i]? = some y → y.chg ≠ x.chg) ∧ Hid (Ext w1 wc)) (fun i _ => k - (intOf i).toNat)
        case atStart => exact ⟨0, Nat.zero_le _, rfl, fun i y h => absurd h (by omega), hE.out⟩
        case round =>
          obtain ⟨j, hj, rfl, hn2, hEc⟩ := hrel
          by_cases hlt2 : j < k
          · have hy : g.known[j]? = some (g.known[j]'(by omega)) := List.getElem?_eq_getElem (by omega)
            generalize g.known[j]'(by omega) = y at hy
            obtain ⟨ad', e0, q2, q3⟩ := R0.out.kn hy
            cases e0
            have HY := Lib.hid hy
            clear hy
            have hjk : j < g.known.length := by omega
            have y0 : ∀ y : Up w1, y.u.cell? _ = _ := fun y => y.ext.cell k0
            have z0 : ∀ y : Up w1, y.u.cell? _ = _ := fun y => y.ext.cell q0
            have z2 : ∀ y : Up w1, y.u.cell? _ = _ := fun y => y.ext.cell q2
            go_wp2
            by_cases hs : y.chg = x.chg
            · have e1 := seq_t hs
              have HR : Hid (checkL g = 14) := Lib.hid (checkL_dup h30 (dupKn_t hlt2 HX.out HY.out hs))
              clear hs
              refine wp_region_planE hEc.out [(true, 0), (true, 1), (true, 2), (true, 3), (true, 4), (true, 5), (true, 6), (true, 7), (true, 8), (true, 9), (true, 10), (true, 11), (true, 12)] (by kernel_rfl) (by kernel_rfl) ?_
              iterate 13 ((try go_frame); refine plan_read ?_; go_big_quiet_step (fail); refine wpQuiet_nil ?_)
              refine plan_end ?_
              have HE2 : Hid (Ext w wr.drew) := Lib.hid (HE.out.trans hEc.out.drew)
              clear y0 z0 z2
              go_wp2
              go_ret
              exact ⟨ret_int HR.out.symm, HE2.out⟩
            · have e1 := seq_f hs
              have HS := Lib.hid hs
              clear hs
              refine wp_region_planE hEc.out [(true, 0), (true, 1), (true, 2), (true, 3), (true, 4), (true, 5), (true, 6), (true, 7), (true, 8), (true, 9), (true, 10), (true, 11), (true, 12)] (by kernel_rfl) (by kernel_rfl) ?_
              iterate 13 ((try go_frame); refine plan_read ?_; go_big_quiet_step (fail); refine wpQuiet_nil ?_)
              refine plan_end ?_
              have HE2 : Hid (Ext w1 wr.drew) := Lib.hid hEc.out.drew
              clear y0 z0 z2
              go_wp2
              go_roundw
              case rel =>
                refine ⟨j + 1, by omega, by go_num, fun i z hi hz => ?_, HE2.out⟩
                rcases Nat.lt_succ_iff_lt_or_eq.1 hi with h | rfl
                · exact hn2.out i z h hz
                · rw [HY.out] at hz; cases hz; exact HS.out
              case measure => simp [intOf]; omega
          · have HN : Hid (∀ (i j : Nat) (x y : Kn), i < k + 1 → j < i → g.known[i]? = some x → g.known[j]? = some y → y.chg ≠ x.chg) := Lib.hid (by
              intro i j x' y' hi hj' hx' hy'
              rcases Nat.lt_succ_iff_lt_or_eq.1 hi with h | rfl
              · exact hn.out i j x' y' h hj' hx' hy'
              · rw [HX.out] at hx'; cases hx'; exact hn2.out j y' (by omega) hy')
            go_wp2
            go_roundw
            case rel => exact ⟨k + 1, by omega, by go_num, HN.out, hEc.out⟩
            case measure => simp [intOf]; omega
      · have hS1 : S1 g := ⟨h30, dupKn_f fun i j x y hj hx hy => hn.out i j x y (by have := (List.getElem?_eq_some_iff.1 hx).1; omega) hj hx hy⟩
        have HS1 := Lib.hid hS1
        clear hS1 hn
        have hE1 := hE.out
        have HE1 := Lib.hid hE1
        have HEw : Hid (Ext w wr) := Lib.hid (HE.out.trans hE1)
        have k1' := hE1.cell k1
        have k2' := hE1.cell k2
        clear hE1 hE h30
        go_wp2
        go_loop [5] (fun i => ∃ k : Nat, k ≤ g.known.length ∧ i = .int .i64 (k : Int) ∧ Hid (∀ (i : Nat) (x : Kn), i < k → g.known[i]? = some x → badKn x = false)) (fun i => g.known.length - (intOf i).toNat)
        case atStart => exact ⟨0, Nat.zero_le _, rfl, fun i x h => absurd h (by omega)⟩
        case round =>
          obtain ⟨k, hk, rfl, hn⟩ := hrel
          by_cases hlt : k < g.known.length
          · have hx : g.known[k]? = some g.known[k] := List.getElem?_eq_getElem hlt
            generalize g.known[k] = x at hx
            obtain ⟨ad, rfl, q0, q1⟩ := (R0.out.ext HE1.out).kn hx
            have HX := Lib.hid hx
            have HNM := Lib.hid (ref26_Name x.chg wr)
            have HB : Hid (badKn x = true → checkL g = 8) := Lib.hid fun h => checkL_bad HS1.out (List.any_eq_true.2 ⟨x, List.mem_of_getElem? HX.out, h⟩)
            clear hx
            cases hnm : nameOk x.chg with
            | false =>
              have HR : Hid (checkL g = 8) := Lib.hid (HB.out (by simp [badKn, hnm]))
              rw [hnm] at HNM
              clear hnm
              go_wp2_with (first | (go_at_call 109; refine HNM.out.mono ?_; rintro e w' ⟨rfl, rfl⟩))
              go_ret
              exact ⟨ret_int HR.out.symm, HEw.out⟩
            | true =>
              rw [hnm] at HNM
              by_cases hc0 : x.cls < 0
              · have HR : Hid (checkL g = 8) := Lib.hid (HB.out (by simp [badKn, hc0]))
                clear hnm
                go_wp2_with (first | (go_at_call 109; refine HNM.out.mono ?_; rintro e w' ⟨rfl, rfl⟩))
                go_ret
                exact ⟨ret_int HR.out.symm, HEw.out⟩
              · by_cases hc30 : 30 ≤ x.cls
                · have HR : Hid (checkL g = 8) := Lib.hid (HB.out (by simp [badKn, hc30]))
                  clear hnm
                  go_wp2_with (first | (go_at_call 109; refine HNM.out.mono ?_; rintro e w' ⟨rfl, rfl⟩))
                  go_ret
                  exact ⟨ret_int HR.out.symm, HEw.out⟩
                · have HG : Hid (badKn x = false) := Lib.hid (by simp [badKn, hnm, hc0, hc30])
                  clear hnm
                  go_wp2_with (first | (go_at_call 109; refine HNM.out.mono ?_; rintro e w' ⟨rfl, rfl⟩))
                  go_round
                  case rel =>
                    refine ⟨k + 1, by omega, by go_num, fun j y hj hy => ?_⟩
                    rcases Nat.lt_succ_iff_lt_or_eq.1 hj with h | rfl
                    · exact hn.out j y h hy
                    · rw [HX.out] at hy; cases hy; exact HG.out
                  case measure => simp [intOf]; omega
          · have hS2 : S2 g := ⟨HS1.out, by
              rw [List.any_eq_false]
              intro x hx
              obtain ⟨i, hi⟩ := List.getElem?_of_mem hx
              rw [hn.out i x (by have := (List.getElem?_eq_some_iff.1 hi).1; omega) hi]; simp⟩
            have HS2 := Lib.hid hS2
            have HCB := Lib.hid (ref26_Check g.brs A1 c1 wr (R1.out.ext HE1.out) h1)
            clear hS2 hn HS1
            by_cases hcb : checkB g.brs = 0
            · have HS3 : Hid (S3 g) := Lib.hid ⟨HS2.out, hcb⟩
              rw [hcb] at HCB
              have hb8 : g.brs.length ≤ 8 := (checkB_zero hcb).1
              have HCK := Lib.hid hcb
              clear hcb HS2
              by_cases hlen : g.evs.length = g.brs.length
              · have e1 : ((g.evs.length : Int) != (g.brs.length : Int)) = false := by rw [hlen]; simp
                have hev8 : g.evs.length ≤ 8 := by omega
                have HS4 : Hid (S4 g) := Lib.hid ⟨HS3.out, hlen⟩
                have HLEN := Lib.hid hlen
                clear hlen HS3
                go_wp2_with fail
                refine HCB.out.mono ?_
                rintro e w2 ⟨rfl, he2⟩
                replace k0' := he2.cell k0'
                replace k1' := he2.cell k1'
                replace k2' := he2.cell k2'
                have HE2 : Hid (Ext w1 w2) := Lib.hid (HE1.out.trans he2)
                clear he2 HCB HE1 HEw
                go_wp2
                go_loop [7] (fun i => ∃ k : Nat, k ≤ g.evs.length ∧ i = .int .i64 (k : Int) ∧ Hid (∀ (i : Nat) (x : List Ev), i < k → g.evs[i]? = some x → x.length ≤ 40)) (fun i => g.evs.length - (intOf i).toNat)
                case atStart => exact ⟨0, Nat.zero_le _, rfl, fun i x h => absurd h (by omega)⟩
                case round =>
                  obtain ⟨k, hk, rfl, hn⟩ := hrel
                  by_cases hlt : k < g.evs.length
                  · have hx : g.evs[k]? = some g.evs[k] := List.getElem?_eq_getElem hlt
                    generalize g.evs[k] = x at hx
                    obtain ⟨ad, D, cD, rfl, q0, q1, q2⟩ := (R2.out.ext HE2.out).sub hx
                    have HX := Lib.hid hx
                    clear hx
                    by_cases h40 : 40 < x.length
                    · have HR : Hid (checkL g = 4) := Lib.hid (checkL_evs HS4.out (List.any_eq_true.2 ⟨x, List.mem_of_getElem? HX.out, by simpa using h40⟩))
                      go_wp2
                      go_ret
                      exact ⟨ret_int HR.out.symm, HE.out.trans HE2.out⟩
                    · go_wp2
                      go_round
                      case rel =>
                        refine ⟨k + 1, by omega, by go_num, fun j y hj hy => ?_⟩
                        rcases Nat.lt_succ_iff_lt_or_eq.1 hj with h | rfl
                        · exact hn.out j y h hy
                        · rw [HX.out] at hy; cases hy; omega
                      case measure => simp [intOf]; omega
                  · have hS5 : S5 g := ⟨HS4.out, by
                      rw [List.any_eq_false]
                      intro x hx
                      obtain ⟨i, hi⟩ := List.getElem?_of_mem hx
                      have := hn.out i x (by have := (List.getElem?_eq_some_iff.1 hi).1; omega) hi
                      simp; omega⟩
                    have HS5 := Lib.hid hS5
                    clear hS5 hn HS4
                    have h40 : ∀ (i : Nat) (y : Int), (cnts g)[i]? = some y → 0 ≤ y ∧ y ≤ 40 := by
                      intro i y hy
                      rw [cnts, List.getElem?_map] at hy
                      cases hx : g.evs[i]? with
                      | none => rw [hx] at hy; cases hy
                      | some x =>
                        rw [hx] at hy
                        simp only [Option.map_some, Option.some.injEq] at hy
                        have := List.any_eq_false.1 HS5.out.2 x (List.mem_of_getElem? hx)
                        simp at this
                        omega
                    have H40 := Lib.hid h40
                    clear h40
                    have y0 : ∀ y : Up w1, y.u.cell? _ = _ := fun y => y.ext.cell k0
                    have y1 : ∀ y : Up w1, y.u.cell? _ = _ := fun y => y.ext.cell k1
                    have y2 : ∀ y : Up w1, y.u.cell? _ = _ := fun y => y.ext.cell k2
                    have HCNT := Lib.hid (ref29_Counts g _ w2.drew (HV.out.ext HE2.out.drew) (by omega))
                    go_wp2
                    by_cases hft : fitsB g.brs (cnts g) = 0
                    · refine wp_region_planE HE2.out [(true, 0), (true, 1), (true, 2), (false, 3), (false, 4), (true, 5)] (by kernel_rfl) (by kernel_rfl) ?_
                      iterate 3 ((try go_frame); refine plan_read ?_; go_big_quiet_step (fail); refine wpQuiet_nil ?_)
                      refine plan_enter (F := 33) rfl (fun _ _ => by kernel_rfl) HE2.out.drew (HCNT.out.mono ?_)
                      rintro e w3 ⟨r, rfl, hfr, he3⟩
                      refine ⟨_, rfl, he3, ?_⟩
                      have hE3 : Ext w1 w3 := HE2.out.drew.trans he3
                      obtain ⟨A3, c3, rfl, hc3, hr3⟩ := hfr.sl
                      refine plan_enter (F := 99) rfl (fun _ _ => by kernel_rfl) hE3 ((ref26_Fits g.brs (cnts g) A1 A3 c1 c3 w3 (R1.out.ext hE3) hr3 h1).mono ?_)
                      rintro e w4 ⟨rfl, he4⟩
                      refine ⟨_, rfl, he4, ?_⟩
                      ((try go_frame); refine plan_read ?_; go_big_quiet_step (fail); refine wpQuiet_nil ?_)
                      refine plan_end ?_
                      have HE4 : Hid (Ext w1 w4) := Lib.hid (hE3.trans he4)
                      have HS6 : Hid (S6 g) := Lib.hid ⟨HS5.out, hft⟩
                      rw [hft]
                      clear hfr he3 he4 hE3 hr3 hc3 hft HCNT HS5
                      replace k0' := HE4.out.cell k0
                      replace k1' := HE4.out.cell k1
                      replace k2' := HE4.out.cell k2
                      go_wp2
                      go_loopw [9] (fun i wr => ∃ k : Nat, k ≤ g.brs.length ∧ i = .int .i64 (k : Int) ∧ Hid (∀ j, j < k → okBr g j = true) ∧ Hid (Ext w1 wr)) (fun i _ => g.brs.length - (intOf i).toNat)
                      case atStart => exact ⟨0, Nat.zero_le _, rfl, fun j h => absurd h (by omega), HE4.out⟩
                      case round =>
                        clear HE4 k0' k1' k2'
                        obtain ⟨k, hk, rfl, hn, hE⟩ := hrel
                        have k1' := hE.out.cell k1
                        by_cases hlt : k < g.brs.length
                        · have hx : g.brs[k]? = some g.brs[k] := List.getElem?_eq_getElem hlt
                          generalize g.brs[k] = x at hx
                          obtain ⟨ad, e0, q0, q1, q2⟩ := R1.out.br hx
                          cases e0
                          have hown : g.evs[k]? = some (g.evs[k]'(by have := HLEN.out; omega)) := List.getElem?_eq_getElem _
                          generalize g.evs[k]'(by have := HLEN.out; omega) = own at hown
                          have hkev : k < g.evs.length := (List.getElem?_eq_some_iff.1 hown).1
                          have hidx : idx g.brs x.name = k := (checkB_zero HCK.out).2.1 k x hx
                          have hve : viewErr g.brs (cnts g) x.name = 0 := viewErr_ok HS6.out.2 (by omega)
                          have hvl : viewL g.brs (cnts g) x.name = vw g.brs (cnts g) k := by rw [viewL_ok hve, hidx, Int.toNat_natCast]
                          have HVE := Lib.hid hve
                          have HVL := Lib.hid hvl
                          have HOWN := Lib.hid hown
                          have HEV := Lib.hid (evs_vw hown)
                          have hvlen : (vw g.brs (cnts g) k).length = (baseEvs g k).length + own.length := by
                            have := congrArg List.length (evs_vw hown)
                            rw [List.length_append] at this
                            rw [← this]; simp [evsOf]
                          have HVL2 : Hid ((vw g.brs (cnts g) k).length ≤ 360) := Lib.hid (vwStep_length HCK.out H40.out)
                          have HVLEN := Lib.hid hvlen
                          have HMO := Lib.hid (vw_ok HCK.out HLEN.out k hlt)
                          obtain ⟨ad2, D, cD, e1, q3, hcD, q4⟩ := R2.out.sub hown
                          cases e1
                          have HQ4 := Lib.hid q4
                          clear hx hown hidx hve hvl q4 hvlen
                          have y0 : ∀ y : Up w1, y.u.cell? _ = _ := fun y => y.ext.cell k0
                          have y1 : ∀ y : Up w1, y.u.cell? _ = _ := fun y => y.ext.cell k1
                          have y2 : ∀ y : Up w1, y.u.cell? _ = _ := fun y => y.ext.cell k2
                          have z0 : ∀ y : Up w1, y.u.cell? _ = _ := fun y => y.ext.cell q0
                          have HCNT := Lib.hid (ref29_Counts g _ wr.drew (HV.out.ext hE.out.drew) (by omega))
                          obtain ⟨wo, hwo⟩ : ∃ wo : World, wo = wr := ⟨_, rfl⟩
                          subst hwo
                          go_wp2
                          refine wp_region_planE hE.out [(true, 0), (true, 1), (true, 2), (true, 4), (true, 5), (true, 6), (true, 7), (true, 8), (true, 9), (false, 3), (false, 10), (true, 11), (true, 12), (true, 13), (true, 14), (true, 15)] (by kernel_rfl) (by kernel_rfl) ?_
                          iterate 9 ((try go_frame); refine plan_read ?_; go_big_quiet_step (fail); refine wpQuiet_nil ?_)
                          refine plan_enter (F := 33) rfl (fun _ _ => by kernel_rfl) hE.out.drew (HCNT.out.mono ?_)
                          rintro e w3 ⟨r, rfl, hfr, he3⟩
                          refine ⟨_, rfl, he3, ?_⟩
                          have hE3 : Ext w1 w3 := hE.out.drew.trans he3
                          obtain ⟨A3, c3, rfl, hc3, hr3⟩ := hfr.sl
                          refine plan_enter (F := 32) rfl (fun _ _ => by kernel_rfl) hE3 ((ref26_View g.brs (cnts g) x.name (some ad) A3 c1 c3 w3 (R1.out.ext hE3) hr3 h1).mono ?_)
                          rintro e w5 ⟨r, rfl, hfr2, he5⟩
                          refine ⟨_, rfl, he5, ?_⟩
                          rw [HVE.out]
                          rw [HVL.out] at hfr2
                          obtain ⟨A5, c5, rfl, hc5, hr5⟩ := hfr2.sl
                          iterate 5 ((try go_frame); refine plan_read ?_; go_big_quiet_step (fail); refine wpQuiet_nil ?_)
                          refine plan_end ?_
                          have HE5 : Hid (Ext w1 w5) := Lib.hid (hE3.trans he5)
                          have hvlen := HVLEN.out
                          have hvlen2 := HVL2.out
                          have HSEEN := Lib.hid (ref29_Seen g (vw g.brs (cnts g) k) (vw g.brs (cnts g) k).length _ A5 c5 w5 (HV.out.ext HE5.out) hr5 hc5 HMO.out (by omega) (by omega))
                          rw [List.take_length, HEV.out] at HSEEN
                          obtain ⟨B, hB⟩ : ∃ B, B = (baseEvs g k).length := ⟨_, rfl⟩
                          rw [← hB] at hvlen
                          rw [hvlen] at HSEEN hvlen2 hc5
                          rw [hvlen]
                          have HB := Lib.hid hB
                          clear hB hvlen hfr hfr2 he3 he5 hE3 hr3 hc3 hr5 HCNT hE
                          have k0'' := HE5.out.cell k0
                          have k1'' := HE5.out.cell k1
                          have k2'' := HE5.out.cell k2
                          clear k1'
                          go_wp2_with fail
                          refine HSEEN.out.mono ?_
                          rintro e w6 ⟨r, rfl, hown6, he6⟩
                          replace k0'' := he6.cell k0''
                          replace k1'' := he6.cell k1''
                          replace k2'' := he6.cell k2''
                          have HE6 : Hid (Ext w1 w6) := Lib.hid (HE5.out.trans he6)
                          have q3' := HE6.out.cell q3
                          obtain ⟨A6, c6, rfl, hc6, hr6⟩ := hown6.sl
                          have hl6 : (baseEvs g k ++ own).length = B + own.length := by rw [List.length_append, HB.out]
                          rw [hl6] at hc6 ⊢
                          have HR6 := Lib.hid hr6
                          clear hown6 he6 HE5 hr6 hl6 HSEEN
                          obtain ⟨n, hnn⟩ : ∃ n, n = own.length := ⟨_, rfl⟩
                          rw [← hnn] at q3' hc6 hcD hvlen2 ⊢
                          have HN := Lib.hid hnn
                          clear hnn
                          have hsub : IntKind.i64.wrap (((B + n : Nat) : Int) - (n : Int)) = (B : Int) := by rw [IntWalk.i64_in _ (by omega)]; omega
                          go_wp2_with fail
                          clear hsub
                          have hcB : B + n ≤ c6 := hc6
                          go_loopw [13] (fun i wc => ∃ t : Nat, t ≤ n ∧ i = .int .i64 ((B + t : Nat) : Int) ∧ Hid (∀ (j : Nat) (e : Ev), j < t → own[j]? = some e → 0 ≤ cls g e.chg ∧ allowed g (baseEvs g k ++ own.take j) e = 0) ∧ Hid (Ext w6 wc)) (fun i _ => B + n - (intOf i).toNat)
                          case atStart => exact ⟨0, Nat.zero_le _, rfl, fun j e h => absurd h (by omega), Ext.refl _⟩
                          case round =>
                            obtain ⟨t, ht, rfl, hn3, hEc⟩ := hrel
                            clear k0'' k1'' k2'' q3'
                            by_cases hlt3 : t < n
                            · have hev : own[t]? = some (own[t]'(by have := HN.out; omega)) := List.getElem?_eq_getElem _
                              generalize own[t]'(by have := HN.out; omega) = ev at hev
                              have hS : (baseEvs g k ++ own)[B + t]? = some ev := by rw [List.getElem?_append_right (by have := HB.out; omega), show B + t - (baseEvs g k).length = t by have := HB.out; omega]; exact hev
                              have hEc1 : Ext w1 wr := HE6.out.trans hEc.out
                              have hR : Rd elEv wr A6 (baseEvs g k ++ own) := HR6.out.ext hEc.out
                              obtain ⟨ad6, rfl, z3, z4⟩ := hR.ev hS
                              have hST : (baseEvs g k ++ own).take (B + t) = baseEvs g k ++ own.take t := by
                                rw [List.take_append, List.take_of_length_le (by have := HB.out; omega), show B + t - (baseEvs g k).length = t by have := HB.out; omega]
                              have hRT : Rd elEv wr (some ad6) (baseEvs g k ++ own.take t) := by rw [← hST]; exact hR.take _
                              have hTL : (baseEvs g k ++ own.take t).length = B + t := by rw [← hST, List.length_take, List.length_append, ← HB.out, ← HN.out]; omega
                              have HEVT := Lib.hid hev
                              have HCL : Hid (∀ y : Up wr, _) := Lib.hid fun y : Up wr => quietU (ref29_Class g ev.chg _ y.u (HV.out.ext (hEc1.trans y.ext)))
                              have HAL : Hid (∀ y : Up wr, _) := Lib.hid fun y : Up wr => quietU (ref29_allowed_n g (baseEvs g k ++ own.take t) ev _ (some ad6) (B + t) c6 y.u (HV.out.ext (hEc1.trans y.ext)) (hRT.ext y.ext) hTL (by omega))
                              have k0' := hEc1.cell k0
                              have k1' := hEc1.cell k1
                              have k2' := hEc1.cell k2
                              have y0 : ∀ y : Up wr, y.u.cell? _ = _ := fun y => y.ext.cell k0'
                              have y1 : ∀ y : Up wr, y.u.cell? _ = _ := fun y => y.ext.cell k1'
                              have y2 : ∀ y : Up wr, y.u.cell? _ = _ := fun y => y.ext.cell k2'
                              have z3' : ∀ y : Up wr, y.u.cell? _ = _ := fun y => y.ext.cell z3
                              have z4' : ∀ y : Up wr, y.u.cell? _ = _ := fun y => y.ext.cell z4
                              have HEcw := Lib.hid hEc1
                              have HBAD : Hid (¬ (0 ≤ cls g ev.chg ∧ allowed g (baseEvs g k ++ own.take t) ev = 0) → checkL g = 8) := Lib.hid (by
                                intro hb
                                refine checkL_ev HS6.out hlt ?_
                                rw [Bool.eq_false_iff]
                                intro hok
                                unfold okBr at hok
                                rw [List.getD_eq_getElem?_getD, HOWN.out, Option.getD_some, okEvs_iff] at hok
                                exact hb (hok t ev HEVT.out))
                              have hidx6 : B + t < B + n := by omega
                              have hcut6 : B + t ≤ c6 := by omega
                              have HT3 : Hid (t + 1 ≤ n) := Lib.hid (by omega)
                              clear hev hS hR hST hRT hTL hEc1 z3 z4 k0' k1' k2'
                              have HNX : Hid (0 ≤ cls g ev.chg ∧ allowed g (baseEvs g k ++ own.take t) ev = 0 → ∀ (j : Nat) (e : Ev), j < t + 1 → own[j]? = some e → 0 ≤ cls g e.chg ∧ allowed g (baseEvs g k ++ own.take j) e = 0) := Lib.hid (by
                                intro h j e hj he
                                rcases Nat.lt_succ_iff_lt_or_eq.1 hj with h1 | rfl
                                · exact hn3.out j e h1 he
                                · rw [HEVT.out] at he; cases he; exact h)
                              generalize cls g ev.chg = z at HCL HAL HBAD HNX
                              generalize allowed g (baseEvs g k ++ own.take t) ev = al at HAL HBAD HNX
                              go_wp2
                              by_cases hz : z < 0
                              · have HR : Hid (checkL g = 8) := Lib.hid (HBAD.out (by omega))
                                refine wp_quietU (by kernel_rfl) (by kernel_rfl) ?_
                                repeat (go_big_quiet_step ((first | (go_at_call 35; exact HCL.out _))))
                                refine wpQuiet_nil ?_
                                rintro _ ⟨y, rfl⟩
                                have HE9 : Hid (Ext w y.u) := Lib.hid (HE.out.trans (HEcw.out.trans y.ext))
                                clear y0 y1 y2 z3' z4' HCL HAL
                                go_wp2
                                go_ret
                                exact ⟨ret_int HR.out.symm, HE9.out⟩
                              · have hz2 : 0 ≤ z := by omega
                                by_cases ha : al = 0
                                · have e9 : (al != 0) = false := by rw [ha]; rfl
                                  have HZ : Hid (0 ≤ z ∧ al = 0) := Lib.hid ⟨hz2, ha⟩
                                  clear ha
                                  refine wp_quietU (by kernel_rfl) (by kernel_rfl) ?_
                                  repeat (go_big_quiet_step ((first | (go_at_call 35; exact HCL.out _) | (go_at_call 111; exact HAL.out _))))
                                  refine wpQuiet_nil ?_
                                  rintro _ ⟨y, rfl⟩
                                  have HE9 : Hid (Ext w6 y.u) := Lib.hid (hEc.out.trans y.ext)
                                  clear y0 y1 y2 z3' z4' HCL HAL
                                  go_wp2
                                  go_roundw
                                  case rel =>
                                    exact ⟨t + 1, HT3.out, by go_num, HNX.out HZ.out, HE9.out⟩
                                  case measure => simp [intOf]; omega
                                · have HR : Hid (checkL g = 8) := Lib.hid (HBAD.out (by omega))
                                  have e9 : (al != 0) = true := bne_iff_ne.2 ha
                                  clear ha
                                  refine wp_quietU (by kernel_rfl) (by kernel_rfl) ?_
                                  repeat (go_big_quiet_step ((first | (go_at_call 35; exact HCL.out _) | (go_at_call 111; exact HAL.out _))))
                                  refine wpQuiet_nil ?_
                                  rintro _ ⟨y, rfl⟩
                                  have HE9 : Hid (Ext w y.u) := Lib.hid (HE.out.trans (HEcw.out.trans y.ext))
                                  clear y0 y1 y2 z3' z4' HCL HAL
                                  go_wp2
                                  go_ret
                                  exact ⟨ret_int HR.out.symm, HE9.out⟩
                            · have hOK : okBr g k = true := by
                                unfold okBr
                                rw [List.getD_eq_getElem?_getD, HOWN.out, Option.getD_some, okEvs_iff]
                                intro j e he
                                exact hn3.out j e (by have := (List.getElem?_eq_some_iff.1 he).1; have := HN.out; omega) he
                              have HOK : Hid (∀ j, j < k + 1 → okBr g j = true) := Lib.hid (by
                                intro j hj
                                rcases Nat.lt_succ_iff_lt_or_eq.1 hj with h | rfl
                                · exact hn.out j h
                                · exact hOK)
                              have HEo : Hid (Ext w1 wr) := Lib.hid (HE6.out.trans hEc.out)
                              clear hOK hn3
                              go_wp2
                              go_roundw
                              case rel => exact ⟨k + 1, by omega, by go_num, HOK.out, HEo.out⟩
                              case measure => simp [intOf]; omega
                        · have HR : Hid (checkL g = 0) := Lib.hid (checkL_ok HS6.out fun i hi => hn.out i (by omega))
                          go_wp2
                          go_ret
                          exact ⟨ret_int HR.out.symm, HE.out.trans hE.out⟩
                    · have HR : Hid (checkL g = fitsB g.brs (cnts g)) := Lib.hid (checkL_fits HS5.out hft)
                      have e1 : (fitsB g.brs (cnts g) != 0) = true := by rw [bne_iff_ne]; exact hft
                      refine wp_region_planE HE2.out [(true, 0), (true, 1), (true, 2), (false, 3), (false, 4), (true, 5)] (by kernel_rfl) (by kernel_rfl) ?_
                      iterate 3 ((try go_frame); refine plan_read ?_; go_big_quiet_step (fail); refine wpQuiet_nil ?_)
                      refine plan_enter (F := 33) rfl (fun _ _ => by kernel_rfl) HE2.out.drew (HCNT.out.mono ?_)
                      rintro e w3 ⟨r, rfl, hfr, he3⟩
                      refine ⟨_, rfl, he3, ?_⟩
                      have hE3 : Ext w1 w3 := HE2.out.drew.trans he3
                      obtain ⟨A3, c3, rfl, hc3, hr3⟩ := hfr.sl
                      refine plan_enter (F := 99) rfl (fun _ _ => by kernel_rfl) hE3 ((ref26_Fits g.brs (cnts g) A1 A3 c1 c3 w3 (R1.out.ext hE3) hr3 h1).mono ?_)
                      rintro e w4 ⟨rfl, he4⟩
                      refine ⟨_, rfl, he4, ?_⟩
                      ((try go_frame); refine plan_read ?_; go_big_quiet_step (fail); refine wpQuiet_nil ?_)
                      refine plan_end ?_
                      have HE4 : Hid (Ext w w4) := Lib.hid (HE.out.trans (hE3.trans he4))
                      clear hfr he3 he4 hE3 hr3 hc3 hft HCNT
                      generalize fitsB g.brs (cnts g) = z at *
                      go_wp2
                      go_ret
                      exact ⟨ret_int HR.out.symm, HE4.out⟩
              · have e1 : ((g.evs.length : Int) != (g.brs.length : Int)) = true := by rw [bne_iff_ne]; omega
                have HR : Hid (checkL g = 2) := Lib.hid (checkL_len HS3.out hlen)
                clear hlen
                go_wp2_with fail
                refine HCB.out.mono ?_
                rintro e w2 ⟨rfl, he2⟩
                replace k0' := he2.cell k0'
                replace k1' := he2.cell k1'
                replace k2' := he2.cell k2'
                have HE2 : Hid (Ext w w2) := Lib.hid (HEw.out.trans he2)
                clear he2
                go_wp2
                go_ret
                exact ⟨ret_int HR.out.symm, HE2.out⟩
            · have HR := Lib.hid (checkL_br HS2.out hcb)
              have e1 : (checkB g.brs != 0) = true := by rw [bne_iff_ne]; exact hcb
              clear hcb
              generalize checkB g.brs = z at *
              go_wp2_with fail
              refine HCB.out.mono ?_
              rintro e w2 ⟨rfl, he2⟩
              have HE2 : Hid (Ext w w2) := Lib.hid (HEw.out.trans he2)
              clear he2
              go_wp2
              go_ret
              exact ⟨ret_int HR.out.symm, HE2.out⟩
end Go.Proofs.YtgibdafkidkahaaGreatDoor
