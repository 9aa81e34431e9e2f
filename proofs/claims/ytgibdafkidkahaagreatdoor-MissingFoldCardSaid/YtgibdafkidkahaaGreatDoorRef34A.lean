/- Derived: walks: the reference of layer 34: the error of a ledger and fixes. -/
import Derived.Test.YtgibdafkidkahaaGreatDoorFxB
import Derived.Test.YtgibdafkidkahaaGreatDoorLed5
set_option linter.unusedVariables false
set_option linter.unusedSimpArgs false
namespace Go.Proofs.YtgibdafkidkahaaGreatDoor
open Go.RowKit

set_option maxRecDepth 100000 in
set_option maxHeartbeats 8000000 in
theorem ref34_one (g : Lg) (fx : List Fx) (k : Nat) (x : Fx) (hx : fx[k]? = some x) (v : Value) (A : Option Addr) (c : Nat) (w : World) (hv : LgV w v g) (hf : Rd elFx w A fx) :
    Calls Tryz.prog 96 #[v, .slice A fx.length c, .int .i64 (k : Int)] w fun e w' => e = .returned (.int .i64 (fxErr g.brs (fx.take k) x)) ∧ Ext w w' := by
  obtain ⟨A0, c0, A1, c1, A2, c2, rfl, h0, h1, h2, r0, r1, r2⟩ := hv.ex
  have hm0 := hf.1
  have hkl : k < fx.length := (List.getElem?_eq_some_iff.1 hx).1
  have HX := Lib.hid hx
  clear hx
  go_enter Tryz.func96, Tryz.ntmps96
  go_wp2_with (with_reducible refine stop_box ?_)
  refine Stop.go ?_
  refine ev_box3 (c0 := .slice A0 g.known.length c0) (c1 := .slice A1 g.brs.length c1) (c2 := .slice A2 g.evs.length c2) rfl ?_
  intro g1 w1 hb_g1 he hg_g1 k0 k1 k2
  have HE := Lib.hid he
  have HV := Lib.hid (hv.ext he)
  have R1 := Lib.hid (r1.ext he)
  have RF := Lib.hid (hf.ext he)
  clear he r0 r1 r2 hv hf hb_g1 hg_g1
  obtain ⟨ad, B, cB, rfl, q0, q1, q2, hcB, qr⟩ := RF.out.fx HX.out
  have hbl := qr.1
  have QR := Lib.hid qr
  clear qr
  by_cases b1 : x.cls < 0
  · have HR : Hid (fxErr g.brs (fx.take k) x = 8) := Lib.hid (fxErr_8 (by simp [badFx, *]))
    go_wp2_with (first | ((with_reducible refine ev_var (v := .agg #[.int .i64 x.cls, .int .i64 x.wt, .slice B x.brs.length cB]) _ zFx ?hd ?hx ?hs ?h1 ?_); (case hd => exact fun _ => rfl); (case hx => exact fun _ => rfl); (case hs => rfl); (case h1 => exact one3 rfl rfl rfl); intro gx w4 hb he4 hgx; have m0 := (blk_cell hb 0).trans rfl; have m1 := (blk_cell hb 1).trans rfl; have m2 := (blk_cell hb 2).trans rfl; have HE4 := Lib.hid he4; clear hb he4 hgx))
    go_ret
    exact ⟨ret_int HR.out.symm, HE.out.trans HE4.out⟩
  · by_cases b2 : 30 ≤ x.cls
    · have HR : Hid (fxErr g.brs (fx.take k) x = 8) := Lib.hid (fxErr_8 (by simp [badFx, *]))
      go_wp2_with (first | ((with_reducible refine ev_var (v := .agg #[.int .i64 x.cls, .int .i64 x.wt, .slice B x.brs.length cB]) _ zFx ?hd ?hx ?hs ?h1 ?_); (case hd => exact fun _ => rfl); (case hx => exact fun _ => rfl); (case hs => rfl); (case h1 => exact one3 rfl rfl rfl); intro gx w4 hb he4 hgx; have m0 := (blk_cell hb 0).trans rfl; have m1 := (blk_cell hb 1).trans rfl; have m2 := (blk_cell hb 2).trans rfl; have HE4 := Lib.hid he4; clear hb he4 hgx))
      go_ret
      exact ⟨ret_int HR.out.symm, HE.out.trans HE4.out⟩
    · by_cases b3 : x.wt < 1
      · have HR : Hid (fxErr g.brs (fx.take k) x = 8) := Lib.hid (fxErr_8 (by simp [badFx, *]))
        go_wp2_with (first | ((with_reducible refine ev_var (v := .agg #[.int .i64 x.cls, .int .i64 x.wt, .slice B x.brs.length cB]) _ zFx ?hd ?hx ?hs ?h1 ?_); (case hd => exact fun _ => rfl); (case hx => exact fun _ => rfl); (case hs => rfl); (case h1 => exact one3 rfl rfl rfl); intro gx w4 hb he4 hgx; have m0 := (blk_cell hb 0).trans rfl; have m1 := (blk_cell hb 1).trans rfl; have m2 := (blk_cell hb 2).trans rfl; have HE4 := Lib.hid he4; clear hb he4 hgx))
        go_ret
        exact ⟨ret_int HR.out.symm, HE.out.trans HE4.out⟩
      · by_cases b4 : 9 < x.wt
        · have HR : Hid (fxErr g.brs (fx.take k) x = 8) := Lib.hid (fxErr_8 (by simp [badFx, *]))
          go_wp2_with (first | ((with_reducible refine ev_var (v := .agg #[.int .i64 x.cls, .int .i64 x.wt, .slice B x.brs.length cB]) _ zFx ?hd ?hx ?hs ?h1 ?_); (case hd => exact fun _ => rfl); (case hx => exact fun _ => rfl); (case hs => rfl); (case h1 => exact one3 rfl rfl rfl); intro gx w4 hb he4 hgx; have m0 := (blk_cell hb 0).trans rfl; have m1 := (blk_cell hb 1).trans rfl; have m2 := (blk_cell hb 2).trans rfl; have HE4 := Lib.hid he4; clear hb he4 hgx))
          go_ret
          exact ⟨ret_int HR.out.symm, HE.out.trans HE4.out⟩
        · by_cases b5 : x.brs.length = 0
          · have e5 : (((x.brs.length : Nat) : Int) == 0) = true := by rw [b5]; rfl
            have HR : Hid (fxErr g.brs (fx.take k) x = 8) := Lib.hid (fxErr_8 (by simp [badFx, b5]))
            clear b5
            go_wp2_with (first | ((with_reducible refine ev_var (v := .agg #[.int .i64 x.cls, .int .i64 x.wt, .slice B x.brs.length cB]) _ zFx ?hd ?hx ?hs ?h1 ?_); (case hd => exact fun _ => rfl); (case hx => exact fun _ => rfl); (case hs => rfl); (case h1 => exact one3 rfl rfl rfl); intro gx w4 hb he4 hgx; have m0 := (blk_cell hb 0).trans rfl; have m1 := (blk_cell hb 1).trans rfl; have m2 := (blk_cell hb 2).trans rfl; have HE4 := Lib.hid he4; clear hb he4 hgx))
            go_ret
            exact ⟨ret_int HR.out.symm, HE.out.trans HE4.out⟩
          · have e5 : (((x.brs.length : Nat) : Int) == 0) = false := by rw [beq_eq_false_iff_ne]; omega
            have HBF : Hid (badFx x = false) := Lib.hid (by simp [badFx, b1, b2, b3, b4]; intro e; exact b5 (by simp [e]))
            have hpos : 0 < x.brs.length := by omega
            clear b5
            go_wp2_with (first | ((with_reducible refine ev_var (v := .agg #[.int .i64 x.cls, .int .i64 x.wt, .slice B x.brs.length cB]) _ zFx ?hd ?hx ?hs ?h1 ?_); (case hd => exact fun _ => rfl); (case hx => exact fun _ => rfl); (case hs => rfl); (case h1 => exact one3 rfl rfl rfl); intro gx w4 hb he4 hgx; have m0 := (blk_cell hb 0).trans rfl; have m1 := (blk_cell hb 1).trans rfl; have m2 := (blk_cell hb 2).trans rfl; have HE4 := Lib.hid he4; clear hb he4 hgx))
            have k0' := HE4.out.cell k0
            have k1' := HE4.out.cell k1
            have k2' := HE4.out.cell k2
            have QR4 := Lib.hid (QR.out.ext HE4.out)
            have R14 := Lib.hid (R1.out.ext HE4.out)
            have RF4 := Lib.hid (RF.out.ext HE4.out)
            have HE1 := Lib.hid (HE.out.trans HE4.out)
            clear k0 k1 k2 q0 q1 q2 QR R1 RF HE HE4 HV e5
            go_loopw [8] (fun ix wr => ∃ t : Nat, t ≤ x.brs.length ∧ ix = .int .i64 (t : Int) ∧ Hid (∀ (i : Nat) (y : Str), i < t → x.brs[i]? = some y → 0 ≤ idx g.brs y) ∧ Hid (Ext w4 wr)) (fun i _ => x.brs.length - (intOf i).toNat)
            case atStart => exact ⟨0, Nat.zero_le _, rfl, fun i y h => absurd h (by omega), Ext.refl _⟩
            case round =>
              obtain ⟨t, ht, rfl, hn, hE⟩ := hrel
              have n2 := hE.out.cell m2
              by_cases hlt : t < x.brs.length
              · have hy : x.brs[t]? = some x.brs[t] := List.getElem?_eq_getElem hlt
                generalize x.brs[t] = y at hy
                obtain ⟨ad2, rfl, z0⟩ := (QR4.out.ext hE.out).str hy
                have HY := Lib.hid hy
                have n1 := hE.out.cell k1'
                have HIX := Lib.hid (ref26_Index g.brs y A1 c1 wr.drew ((R14.out.ext hE.out).ext (Ext.refl wr).drew))
                clear hy
                have y1 : ∀ y : Up wr, y.u.cell? _ = _ := fun y => y.ext.cell n1
                have y2 : ∀ y : Up wr, y.u.cell? _ = _ := fun y => y.ext.cell n2
                have y3 : ∀ y : Up wr, y.u.cell? _ = _ := fun y => y.ext.cell z0
                go_wp2
                obtain ⟨iv, hiv⟩ : ∃ iv, iv = idx g.brs y := ⟨_, rfl⟩
                rw [← hiv] at HIX
                by_cases hi : iv < 0
                · have HR : Hid (fxErr g.brs (fx.take k) x = 6) := Lib.hid (fxErr_6 HBF.out (List.any_eq_true.2 ⟨y, List.mem_of_getElem? HY.out, by rw [← hiv]; simpa using hi⟩))
                  clear hiv
                  refine wp_region_planU [(true, 0), (true, 1), (true, 2), (true, 3), (true, 4), (true, 5), (true, 6), (false, 7), (true, 8)] (by kernel_rfl) (by kernel_rfl) ?_
                  iterate 7 ((try go_frame); refine plan_read ?_; go_big_quiet_step (fail); refine wpQuiet_nil ?_)
                  refine plan_enter (F := 100) rfl (fun _ _ => by kernel_rfl) (Ext.refl wr).drew (HIX.out.mono ?_)
                  rintro e w5 ⟨rfl, rfl⟩
                  refine ⟨_, rfl, Ext.refl _, ?_⟩
                  ((try go_frame); refine plan_read ?_; go_big_quiet_step (fail); refine wpQuiet_nil ?_)
                  refine plan_end ?_
                  have HE5 : Hid (Ext w wr.drew) := Lib.hid (HE1.out.trans hE.out.drew)
                  clear y1 y2 y3
                  go_wp2
                  go_ret
                  exact ⟨ret_int HR.out.symm, HE5.out⟩
                · have HI : Hid (0 ≤ idx g.brs y) := Lib.hid (by rw [← hiv]; omega)
                  clear hiv
                  refine wp_region_planU [(true, 0), (true, 1), (true, 2), (true, 3), (true, 4), (true, 5), (true, 6), (false, 7), (true, 8)] (by kernel_rfl) (by kernel_rfl) ?_
                  iterate 7 ((try go_frame); refine plan_read ?_; go_big_quiet_step (fail); refine wpQuiet_nil ?_)
                  refine plan_enter (F := 100) rfl (fun _ _ => by kernel_rfl) (Ext.refl wr).drew (HIX.out.mono ?_)
                  rintro e w5 ⟨rfl, rfl⟩
                  refine ⟨_, rfl, Ext.refl _, ?_⟩
                  ((try go_frame); refine plan_read ?_; go_big_quiet_step (fail); refine wpQuiet_nil ?_)
                  refine plan_end ?_
                  have HE5 : Hid (Ext w4 wr.drew) := Lib.hid hE.out.drew
                  clear y1 y2 y3
                  go_wp2
                  go_roundw
                  case rel =>
                    refine ⟨t + 1, by omega, by go_num, fun i u hi hu => ?_, HE5.out⟩
                    rcases Nat.lt_succ_iff_lt_or_eq.1 hi with h | rfl
                    · exact hn.out i u h hu
                    · rw [HY.out] at hu; cases hu; exact HI.out
                  case measure => simp [intOf]; omega
              · have HAN : Hid (x.brs.any (fun b => decide (idx g.brs b < 0)) = false) := Lib.hid (by
                  rw [List.any_eq_false]
                  intro y hy
                  obtain ⟨i, hi⟩ := List.getElem?_of_mem hy
                  have := hn.out i y (by have := (List.getElem?_eq_some_iff.1 hi).1; omega) hi
                  simpa using this)
                have HE5 := Lib.hid hE.out
                clear hn hE
                go_wp2
                go_loopw [9, 10] (fun ix _ wr => ∃ t : Nat, t ≤ x.brs.length ∧ ix = .int .i64 (t : Int) ∧ Hid (∀ (i : Nat) (y : Str), i < t → x.brs[i]? = some y → ((x.brs.take i).any fun z => decide (z = y)) = false) ∧ Hid (Ext w4 wr)) (fun i _ _ => x.brs.length - (intOf i).toNat)
                case atStart => exact ⟨0, Nat.zero_le _, rfl, fun i y h => absurd h (by omega), HE5.out⟩
                case round =>
                  clear n2
                  obtain ⟨t, ht, rfl, hn, hE⟩ := hrel
                  have n2 := hE.out.cell m2
                  by_cases hlt : t < x.brs.length
                  · have hy : x.brs[t]? = some x.brs[t] := List.getElem?_eq_getElem hlt
                    generalize x.brs[t] = y at hy
                    obtain ⟨ad2, e0, z0⟩ := QR4.out.str hy
                    cases e0
                    have HY := Lib.hid hy
                    clear hy
                    obtain ⟨wo, hwo⟩ : ∃ wo : World, wo = wr := ⟨_, rfl⟩
                    subst hwo
                    go_wp2
                    go_loopw [10] (fun ix wr => ∃ j : Nat, j ≤ t ∧ ix = .int .i64 (j : Int) ∧ Hid (∀ (i : Nat) (u : Str), i < j → x.brs[i]? = some u → u ≠ y) ∧ Hid (Ext w4 wr)) (fun i _ => t - (intOf i).toNat)
                    case atStart => exact ⟨0, Nat.zero_le _, rfl, fun i y h => absurd h (by omega), hE.out⟩
                    case round =>
                      clear n2
                      obtain ⟨j, hj, rfl, hn2, hE2⟩ := hrel
                      by_cases hlt2 : j < t
                      · have hu : x.brs[j]? = some (x.brs[j]'(by omega)) := List.getElem?_eq_getElem _
                        generalize x.brs[j]'(by omega) = u at hu
                        obtain ⟨ad3, e0, z1⟩ := QR4.out.str hu
                        cases e0
                        have HU := Lib.hid hu
                        have hjl : j < x.brs.length := by omega
                        clear hu
                        have y2 : ∀ y : Up w4, y.u.cell? _ = _ := fun y => y.ext.cell m2
                        have y3 : ∀ y : Up w4, y.u.cell? _ = _ := fun y => y.ext.cell z0
                        have y4 : ∀ y : Up w4, y.u.cell? _ = _ := fun y => y.ext.cell z1
                        go_wp2
                        by_cases hs : u = y
                        · have e1 := seq_t hs
                          have HR : Hid (fxErr g.brs (fx.take k) x = 14) := Lib.hid (fxErr_14 HBF.out HAN.out (dupStr_t HY.out (List.any_eq_true.2 ⟨u, List.mem_of_getElem? (by rw [List.getElem?_take, if_pos hlt2]; exact HU.out), by simpa using hs⟩)))
                          clear hs
                          refine wp_region_planE hE2.out [(true, 0), (true, 1), (true, 2), (true, 3), (true, 4), (true, 5), (true, 6), (true, 7), (true, 8), (true, 9), (true, 10)] (by kernel_rfl) (by kernel_rfl) ?_
                          iterate 11 ((try go_frame); refine plan_read ?_; go_big_quiet_step (fail); refine wpQuiet_nil ?_)
                          refine plan_end ?_
                          have HE6 : Hid (Ext w wr.drew) := Lib.hid (HE1.out.trans hE2.out.drew)
                          clear y2 y3 y4
                          go_wp2
                          go_ret
                          exact ⟨ret_int HR.out.symm, HE6.out⟩
                        · have e1 := seq_f hs
                          have HS := Lib.hid hs
                          clear hs
                          refine wp_region_planE hE2.out [(true, 0), (true, 1), (true, 2), (true, 3), (true, 4), (true, 5), (true, 6), (true, 7), (true, 8), (true, 9), (true, 10)] (by kernel_rfl) (by kernel_rfl) ?_
                          iterate 11 ((try go_frame); refine plan_read ?_; go_big_quiet_step (fail); refine wpQuiet_nil ?_)
                          refine plan_end ?_
                          have HE6 : Hid (Ext w4 wr.drew) := Lib.hid hE2.out.drew
                          clear y2 y3 y4
                          go_wp2
                          go_roundw
                          case rel =>
                            refine ⟨j + 1, by omega, by go_num, fun i z hi hz => ?_, HE6.out⟩
                            rcases Nat.lt_succ_iff_lt_or_eq.1 hi with h | rfl
                            · exact hn2.out i z h hz
                            · rw [HU.out] at hz; cases hz; exact HS.out
                          case measure => simp [intOf]; omega
                      · have HN : Hid (∀ (i : Nat) (y : Str), i < t + 1 → x.brs[i]? = some y → ((x.brs.take i).any fun z => decide (z = y)) = false) := Lib.hid (by
                          intro i u hi hu
                          rcases Nat.lt_succ_iff_lt_or_eq.1 hi with h | rfl
                          · exact hn.out i u h hu
                          · rw [HY.out] at hu
                            cases hu
                            rw [List.any_eq_false]
                            intro z hz
                            obtain ⟨l, hl⟩ := List.getElem?_of_mem hz
                            rw [List.getElem?_take] at hl
                            split at hl
                            · have := hn2.out l z (by omega) hl
                              simpa using this
                            · cases hl)
                        go_wp2
                        go_roundw
                        case rel => exact ⟨t + 1, by omega, by go_num, HN.out, hE2.out⟩
                        case measure => simp [intOf]; omega
                  · have HDU : Hid (dupStr x.brs = false) := Lib.hid (dupStr_f fun i y hy => hn.out i y (by have := (List.getElem?_eq_some_iff.1 hy).1; omega) hy)
                    have HE6 := Lib.hid hE.out
                    clear hn hE
                    go_wp2
                    go_loopw [11] (fun ix wr => ∃ t : Nat, t ≤ k ∧ ix = .int .i64 (t : Int) ∧ Hid (∀ (i : Nat) (p : Fx), i < t → fx[i]? = some p → p.cls ≠ x.cls) ∧ Hid (Ext w4 wr)) (fun i _ => k - (intOf i).toNat)
                    case atStart => exact ⟨0, Nat.zero_le _, rfl, fun i y h => absurd h (by omega), HE6.out⟩
                    case round =>
                      clear n2
                      obtain ⟨t, ht, rfl, hn, hE⟩ := hrel
                      by_cases hlt : t < k
                      · have hp : fx[t]? = some (fx[t]'(by omega)) := List.getElem?_eq_getElem _
                        generalize fx[t]'(by omega) = p at hp
                        obtain ⟨ad3, B3, cB3, e0, z0, z1, z2, _, _⟩ := RF4.out.fx hp
                        cases e0
                        have HP := Lib.hid hp
                        have htl : t < fx.length := by omega
                        clear hp z1 z2
                        have y0 : ∀ y : Up w4, y.u.cell? _ = _ := fun y => y.ext.cell m0
                        have y3 : ∀ y : Up w4, y.u.cell? _ = _ := fun y => y.ext.cell z0
                        go_wp2
                        by_cases hs : p.cls = x.cls
                        · have e1 : (p.cls == x.cls) = true := by rw [hs]; exact beq_self_eq_true _
                          have HR : Hid (fxErr g.brs (fx.take k) x = 14) := Lib.hid (fxErr_14b HBF.out HAN.out HDU.out (List.any_eq_true.2 ⟨p, List.mem_of_getElem? (by rw [List.getElem?_take, if_pos hlt]; exact HP.out), by simpa using hs⟩))
                          clear hs
                          refine wp_region_planE hE.out [(true, 0), (true, 1), (true, 2), (true, 3), (true, 4), (true, 5), (true, 6), (true, 7)] (by kernel_rfl) (by kernel_rfl) ?_
                          iterate 8 ((try go_frame); refine plan_read ?_; go_big_quiet_step (fail); refine wpQuiet_nil ?_)
                          refine plan_end ?_
                          have HE7 : Hid (Ext w wr.drew) := Lib.hid (HE1.out.trans hE.out.drew)
                          clear y0 y3
                          go_wp2
                          go_ret
                          exact ⟨ret_int HR.out.symm, HE7.out⟩
                        · have e1 : (p.cls == x.cls) = false := beq_eq_false_iff_ne.2 hs
                          have HS := Lib.hid hs
                          clear hs
                          refine wp_region_planE hE.out [(true, 0), (true, 1), (true, 2), (true, 3), (true, 4), (true, 5), (true, 6), (true, 7)] (by kernel_rfl) (by kernel_rfl) ?_
                          iterate 8 ((try go_frame); refine plan_read ?_; go_big_quiet_step (fail); refine wpQuiet_nil ?_)
                          refine plan_end ?_
                          have HE7 : Hid (Ext w4 wr.drew) := Lib.hid hE.out.drew
                          clear y0 y3
                          go_wp2
                          go_roundw
                          case rel =>
                            refine ⟨t + 1, by omega, by go_num, fun i z hi hz => ?_, HE7.out⟩
                            rcases Nat.lt_succ_iff_lt_or_eq.1 hi with h | rfl
                            · exact hn.out i z h hz
                            · rw [HP.out] at hz; cases hz; exact HS.out
                          case measure => simp [intOf]; omega
                      · have HR : Hid (fxErr g.brs (fx.take k) x = 0) := Lib.hid (fxErr_0 HBF.out HAN.out HDU.out (by
                          rw [List.any_eq_false]
                          intro p hp
                          obtain ⟨i, hi⟩ := List.getElem?_of_mem hp
                          rw [List.getElem?_take] at hi
                          split at hi
                          · have := hn.out i p (by omega) hi
                            simpa using this
                          · cases hi))
                        have HE7 : Hid (Ext w wr) := Lib.hid (HE1.out.trans hE.out)
                        go_wp2
                        go_ret
                        exact ⟨ret_int HR.out.symm, HE7.out⟩
set_option maxRecDepth 100000 in
set_option maxHeartbeats 4000000 in
theorem ref34_Check (g : Lg) (fx : List Fx) (v : Value) (A : Option Addr) (c : Nat) (w : World) (hv : LgV w v g) (hf : Rd elFx w A fx) :
    Calls Tryz.prog 28 #[v, .slice A fx.length c] w fun e w' => e = .returned (.int .i64 (checkF g fx)) ∧ Ext w w' := by
  obtain ⟨A0, c0, A1, c1, A2, c2, rfl, h0, h1, h2, r0, r1, r2⟩ := hv.ex
  have hm0 := hf.1
  by_cases hck : checkL g = 0
  · have hck := Lib.hid hck
    go_enter Tryz.func28, Tryz.ntmps28
    go_wp2_with (with_reducible refine stop_box ?_)
    refine Stop.go ?_
    refine ev_box3 (c0 := .slice A0 g.known.length c0) (c1 := .slice A1 g.brs.length c1) (c2 := .slice A2 g.evs.length c2) rfl ?_
    intro g1 w1 hb_g1 he hg_g1 k0 k1 k2
    have HE := Lib.hid he
    have HV := Lib.hid (hv.ext he)
    have RF := Lib.hid (hf.ext he)
    clear he r0 r1 r2 hv hf hb_g1 hg_g1
    go_wp2_with fail
    refine (ref29_Check g _ w1 HV.out).mono ?_
    rintro e w2 ⟨rfl, he2⟩
    rw [hck.out]
    have HE2 := Lib.hid he2
    clear he2
    by_cases h30 : 30 < fx.length
    · have HR := Lib.hid (checkF_many hck.out h30)
      go_wp2
      go_ret
      exact ⟨ret_int HR.out.symm, HE.out.trans HE2.out⟩
    · have H30 := Lib.hid h30
      go_wp2
      go_loopw [6] (fun i wr => ∃ k : Nat, k ≤ fx.length ∧ i = .int .i64 (k : Int) ∧ Hid (FxTo g fx k) ∧ Hid (Ext w1 wr)) (fun i _ => fx.length - (intOf i).toNat)
      case atStart => exact ⟨0, Nat.zero_le _, rfl, fun j x h => absurd h (by omega), HE2.out⟩
      case round =>
        obtain ⟨k, hk, rfl, hn, hE⟩ := hrel
        by_cases hlt : k < fx.length
        · have hx : fx[k]? = some fx[k] := List.getElem?_eq_getElem hlt
          generalize fx[k] = x at hx
          have HX := Lib.hid hx
          have HC := Lib.hid (ref34_one g fx k x hx _ A c wr (HV.out.ext hE.out) (RF.out.ext hE.out))
          have p0 := hE.out.cell k0
          have p1 := hE.out.cell k1
          have p2 := hE.out.cell k2
          clear hx
          obtain ⟨z, hz⟩ : ∃ z, z = fxErr g.brs (fx.take k) x := ⟨_, rfl⟩
          rw [← hz] at HC
          have HZ := Lib.hid hz
          clear hz
          by_cases hz0 : z = 0
          · subst hz0
            have HFT : Hid (FxTo g fx (k + 1)) := Lib.hid (hn.out.succ HX.out HZ.out.symm)
            go_wp2_with fail
            refine HC.out.mono ?_
            rintro e w3 ⟨rfl, he3⟩
            have HE3 := Lib.hid (hE.out.trans he3)
            clear he3 HC p0 p1 p2
            go_wp2
            go_roundw
            case rel => exact ⟨k + 1, by omega, by go_num, HFT.out, HE3.out⟩
            case measure => simp [intOf]; omega
          · have HR : Hid (checkF g fx = z) := Lib.hid (checkF_at hck.out H30.out HX.out hn.out HZ.out.symm hz0)
            have e9 : (z != 0) = true := bne_iff_ne.2 hz0
            clear hz0
            go_wp2_with fail
            refine HC.out.mono ?_
            rintro e w3 ⟨rfl, he3⟩
            have HE3 := Lib.hid (HE.out.trans (hE.out.trans he3))
            clear he3 HC p0 p1 p2
            go_wp2
            go_ret
            exact ⟨ret_int HR.out.symm, HE3.out⟩
        · have HR : Hid (checkF g fx = 0) := Lib.hid (checkF_all hck.out H30.out (fun j x hj hx => hn.out j x (by omega) hx))
          have HEe : Hid (Ext w wr) := Lib.hid (HE.out.trans hE.out)
          go_wp2
          go_ret
          exact ⟨ret_int HR.out.symm, HEe.out⟩
  · have e9 : (checkL g != 0) = true := bne_iff_ne.2 hck
    have HR := Lib.hid (checkF_led (fx := fx) hck)
    have HC : Hid (∀ w2, Ext w w2 → _) := Lib.hid fun w2 (he : Ext w w2) => ref29_Check g _ w2 (hv.ext he)
    rw [HR.out]
    clear hck HR
    generalize checkL g = z at *
    go_enter Tryz.func28, Tryz.ntmps28
    go_wp2_with (with_reducible refine stop_box ?_)
    refine Stop.go ?_
    refine ev_box3 (c0 := .slice A0 g.known.length c0) (c1 := .slice A1 g.brs.length c1) (c2 := .slice A2 g.evs.length c2) rfl ?_
    intro g1 w1 hb_g1 he hg_g1 k0 k1 k2
    have HE_w1 := Lib.hid he
    clear he r0 r1 r2 hv hf hb_g1 hg_g1
    go_wp2_with fail
    refine (HC.out  w1 HE_w1.out).mono ?_
    rintro e w2 ⟨rfl, he_w2⟩
    replace k0 := he_w2.cell k0
    replace k1 := he_w2.cell k1
    replace k2 := he_w2.cell k2
    have HE_w2 : Hid (Ext w w2) := Lib.hid (HE_w1.out.trans he_w2)
    clear he_w2 HE_w1
    go_wp2
    go_ret
    exact ⟨rfl, HE_w2.out⟩
end Go.Proofs.YtgibdafkidkahaaGreatDoor
