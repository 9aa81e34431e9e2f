/- Derived: walks: the error of a ledger and fixes: the program's side. -/
import Derived.Test.YtgibdafkidkahaaGreatDoorFxB
set_option linter.unusedVariables false
set_option linter.unusedSimpArgs false
namespace Go.Proofs.YtgibdafkidkahaaGreatDoor
open Go.RowKit

theorem check_tests (g : Lg) (gb : Nat) (A0 A1 A2 : Option Addr) (c0 c1 c2 : Nat) (w : World) (hv : LgV w (.agg #[.slice A0 g.known.length c0, .slice A1 g.brs.length c1, .slice A2 g.evs.length c2]) g)
    (k0 : w.cell? ⟨gb, 0, none⟩ = some (.slice A0 g.known.length c0)) (k1 : w.cell? ⟨gb, 1, none⟩ = some (.slice A1 g.brs.length c1)) (k2 : w.cell? ⟨gb, 2, none⟩ = some (.slice A2 g.evs.length c2)) :
    Tests 157 #[.pointer (some ⟨gb, 0, none⟩)] w (fun x : Str => .string x) (fun b => decide (idx g.brs b < 0)) := by
  intro s w1 he
  show Calls _ _ _ _ fun e w'' => e = .returned (.bool (decide (idx g.brs s < 0))) ∧ Ext w1 w''
  have m0 := he.cell k0
  have m1 := he.cell k1
  have m2 := he.cell k2
  have HV := Lib.hid (hv.ext he)
  clear k0 k1 k2 hv he
  by_cases hi : idx g.brs s < 0
  · have HI := Lib.hid hi
    obtain ⟨n, hn⟩ : ∃ n, n = idx g.brs s := ⟨_, rfl⟩
    rw [decide_eq_true hi]
    rw [← hn] at hi
    have HC := Lib.hid (missing_index g s _ w1 HV.out)
    rw [← hn] at HC
    clear hn
    go_enter Tryz.func157, Tryz.ntmps157
    go_wp2_with fail
    refine HC.out.mono ?_
    rintro e w2 ⟨rfl, he2⟩
    have HE := Lib.hid he2
    clear he2
    go_wp2
    go_ret
    exact ⟨ret_bool (by first | rfl | simpa using hi), HE.out⟩
  · have HI := Lib.hid hi
    obtain ⟨n, hn⟩ : ∃ n, n = idx g.brs s := ⟨_, rfl⟩
    rw [decide_eq_false hi]
    rw [← hn] at hi
    have HC := Lib.hid (missing_index g s _ w1 HV.out)
    rw [← hn] at HC
    clear hn
    go_enter Tryz.func157, Tryz.ntmps157
    go_wp2_with fail
    refine HC.out.mono ?_
    rintro e w2 ⟨rfl, he2⟩
    have HE := Lib.hid he2
    clear he2
    go_wp2
    go_ret
    exact ⟨ret_bool (by first | rfl | (simp; omega)), HE.out⟩

set_option maxRecDepth 100000 in
set_option maxHeartbeats 8000000 in
theorem missing_Check (g : Lg) (fx : List Fx) (v : Value) (A : Option Addr) (c : Nat) (w : World) (hv : LgV w v g) (hf : Rd elFx w A fx) :
    Calls Tryz.prog 74 #[v, .slice A fx.length c] w fun e w' => e = .returned (.int .i64 (checkF g fx)) ∧ Ext w w' := by
  obtain ⟨A0, c0, A1, c1, A2, c2, rfl, h0, h1, h2, r0, r1, r2⟩ := hv.ex
  have hm0 := hf.1
  by_cases hck : checkL g = 0
  · have hck := Lib.hid hck
    go_enter Tryz.func74, Tryz.ntmps74
    go_wp2_with (with_reducible refine stop_box ?_)
    refine Stop.go ?_
    refine ev_box3 (c0 := .slice A0 g.known.length c0) (c1 := .slice A1 g.brs.length c1) (c2 := .slice A2 g.evs.length c2) rfl ?_
    intro g1 w1 hb_g1 he hg_g1 k0 k1 k2
    have HE := Lib.hid he
    have HV := Lib.hid (hv.ext he)
    have RF := Lib.hid (hf.ext he)
    have HGB : Hid (g1 < w1.heap.size) := Lib.hid (blk_lt hb_g1)
    clear he r0 r1 r2 hv hf hb_g1 hg_g1
    go_wp2_with fail
    refine (ledger_Check g _ w1 HV.out).mono ?_
    rintro e w2 ⟨rfl, he2⟩
    rw [hck.out]
    have HE2 := Lib.hid he2
    replace k0 := he2.cell k0
    replace k1 := he2.cell k1
    replace k2 := he2.cell k2
    have HV2 := Lib.hid (HV.out.ext he2)
    have HT := Lib.hid (check_tests g g1 A0 A1 A2 c0 c1 c2 w2 HV2.out k0 k1 k2)
    clear he2
    by_cases h30 : 30 < fx.length
    · have HR := Lib.hid (checkF_many hck.out h30)
      go_wp2
      go_ret
      exact ⟨ret_int HR.out.symm, HE.out.trans HE2.out⟩
    · have H30 := Lib.hid h30
      go_wp2_with (with_reducible refine stop_makeMap ?_)
      refine Stop.go ?_
      refine ev_makeMap Tryz.underlying238 ?_
      have hmp0 : MapIB (w2.alloc (.map #[] 0)) w2.heap.size (setC (fx.take 0)) := isMap_new w2
      have he0 : Ext w2 (w2.alloc (.map #[] 0)) := (Ext.refl w2).alloc _
      generalize w2.alloc (.map #[] 0) = w3 at hmp0 he0
      obtain ⟨bm, hbm⟩ : ∃ b, b = w2.heap.size := ⟨_, rfl⟩
      rw [← hbm] at hmp0
      rw [← hbm]
      have HB : Hid (w2.heap.size ≤ bm) := Lib.hid (by omega)
      have HM0 := Lib.hid hmp0
      have HE3 := Lib.hid he0
      have k0' := he0.cell k0
      have k1' := he0.cell k1
      have k2' := he0.cell k2
      clear hbm hmp0 he0 k0 k1 k2
      go_wp2
      go_loopw [22] (fun i wr => ∃ k : Nat, k ≤ fx.length ∧ i = .int .i64 (k : Int) ∧ Hid (MapIB wr bm (setC (fx.take k))) ∧ Hid (FxTo g fx k) ∧ Hid (Ext w2 wr)) (fun i _ => fx.length - (intOf i).toNat)
      case atStart => exact ⟨0, Nat.zero_le _, rfl, HM0.out, fun j x h => absurd h (by omega), HE3.out⟩
      case round =>
        clear HM0 HE3 k0' k1' k2'
        obtain ⟨k, hk, rfl, HM, hn, hE⟩ := hrel
        by_cases hlt : k < fx.length
        · have hx : fx[k]? = some fx[k] := List.getElem?_eq_getElem hlt
          generalize fx[k] = x at hx
          obtain ⟨ad, B, cB, rfl, q0, q1, q2, hcB, qr⟩ := (RF.out.ext (HE2.out.trans hE.out)).fx hx
          have HX := Lib.hid hx
          have HAT : Hid (∀ n, fxErr g.brs (fx.take k) x = n → n ≠ 0 → checkF g fx = n) := Lib.hid fun n he h0 => checkF_at hck.out H30.out HX.out hn.out he h0
          have HLK := Lib.hid (MapIB.look (HM.out) x.cls)
          have HST := Lib.hid (setC_take hx)
          have hbl := qr.1
          have QR := Lib.hid qr
          have HEw : Hid (Ext w wr) := Lib.hid (HE.out.trans (HE2.out.trans hE.out))
          clear hx qr
          by_cases b1 : x.cls < 0
          · have HR : Hid (checkF g fx = 8) := Lib.hid (HAT.out 8 (fxErr_8 (by simp [badFx, *])) (by decide))
            clear HAT
            go_wp2_with (first | ((with_reducible refine ev_var (v := .agg #[.int .i64 x.cls, .int .i64 x.wt, .slice B x.brs.length cB]) _ zFx ?hd ?hx ?hs ?h1 ?_); (case hd => exact fun _ => rfl); (case hx => exact fun _ => rfl); (case hs => rfl); (case h1 => exact one3 rfl rfl rfl); intro gx w4 hb he4 hgx; have m0 := (blk_cell hb 0).trans rfl; have m1 := (blk_cell hb 1).trans rfl; have m2 := (blk_cell hb 2).trans rfl; have HE4 := Lib.hid he4; clear hb he4 hgx))
            go_ret
            exact ⟨ret_int HR.out.symm, HEw.out.trans HE4.out⟩
          · by_cases b2 : 30 ≤ x.cls
            · have HR : Hid (checkF g fx = 8) := Lib.hid (HAT.out 8 (fxErr_8 (by simp [badFx, *])) (by decide))
              clear HAT
              go_wp2_with (first | ((with_reducible refine ev_var (v := .agg #[.int .i64 x.cls, .int .i64 x.wt, .slice B x.brs.length cB]) _ zFx ?hd ?hx ?hs ?h1 ?_); (case hd => exact fun _ => rfl); (case hx => exact fun _ => rfl); (case hs => rfl); (case h1 => exact one3 rfl rfl rfl); intro gx w4 hb he4 hgx; have m0 := (blk_cell hb 0).trans rfl; have m1 := (blk_cell hb 1).trans rfl; have m2 := (blk_cell hb 2).trans rfl; have HE4 := Lib.hid he4; clear hb he4 hgx))
              go_ret
              exact ⟨ret_int HR.out.symm, HEw.out.trans HE4.out⟩
            · by_cases b3 : x.wt < 1
              · have HR : Hid (checkF g fx = 8) := Lib.hid (HAT.out 8 (fxErr_8 (by simp [badFx, *])) (by decide))
                clear HAT
                go_wp2_with (first | ((with_reducible refine ev_var (v := .agg #[.int .i64 x.cls, .int .i64 x.wt, .slice B x.brs.length cB]) _ zFx ?hd ?hx ?hs ?h1 ?_); (case hd => exact fun _ => rfl); (case hx => exact fun _ => rfl); (case hs => rfl); (case h1 => exact one3 rfl rfl rfl); intro gx w4 hb he4 hgx; have m0 := (blk_cell hb 0).trans rfl; have m1 := (blk_cell hb 1).trans rfl; have m2 := (blk_cell hb 2).trans rfl; have HE4 := Lib.hid he4; clear hb he4 hgx))
                go_ret
                exact ⟨ret_int HR.out.symm, HEw.out.trans HE4.out⟩
              · by_cases b4 : 9 < x.wt
                · have HR : Hid (checkF g fx = 8) := Lib.hid (HAT.out 8 (fxErr_8 (by simp [badFx, *])) (by decide))
                  clear HAT
                  go_wp2_with (first | ((with_reducible refine ev_var (v := .agg #[.int .i64 x.cls, .int .i64 x.wt, .slice B x.brs.length cB]) _ zFx ?hd ?hx ?hs ?h1 ?_); (case hd => exact fun _ => rfl); (case hx => exact fun _ => rfl); (case hs => rfl); (case h1 => exact one3 rfl rfl rfl); intro gx w4 hb he4 hgx; have m0 := (blk_cell hb 0).trans rfl; have m1 := (blk_cell hb 1).trans rfl; have m2 := (blk_cell hb 2).trans rfl; have HE4 := Lib.hid he4; clear hb he4 hgx))
                  go_ret
                  exact ⟨ret_int HR.out.symm, HEw.out.trans HE4.out⟩
                · by_cases b5 : x.brs.length = 0
                  · have e5 : (((x.brs.length : Nat) : Int) == 0) = true := by rw [b5]; rfl
                    have HR : Hid (checkF g fx = 8) := Lib.hid (HAT.out 8 (fxErr_8 (by simp [badFx, b5])) (by decide))
                    clear HAT b5
                    go_wp2_with (first | ((with_reducible refine ev_var (v := .agg #[.int .i64 x.cls, .int .i64 x.wt, .slice B x.brs.length cB]) _ zFx ?hd ?hx ?hs ?h1 ?_); (case hd => exact fun _ => rfl); (case hx => exact fun _ => rfl); (case hs => rfl); (case h1 => exact one3 rfl rfl rfl); intro gx w4 hb he4 hgx; have m0 := (blk_cell hb 0).trans rfl; have m1 := (blk_cell hb 1).trans rfl; have m2 := (blk_cell hb 2).trans rfl; have HE4 := Lib.hid he4; clear hb he4 hgx))
                    go_ret
                    exact ⟨ret_int HR.out.symm, HEw.out.trans HE4.out⟩
                  · have e5 : (((x.brs.length : Nat) : Int) == 0) = false := by rw [beq_eq_false_iff_ne]; omega
                    have HBF : Hid (badFx x = false) := Lib.hid (by simp [badFx, b1, b2, b3, b4]; intro e; exact b5 (by simp [e]))
                    have hpos : 0 < x.brs.length := by omega
                    clear b5
                    go_wp2_with (first | ((with_reducible refine ev_var (v := .agg #[.int .i64 x.cls, .int .i64 x.wt, .slice B x.brs.length cB]) _ zFx ?hd ?hx ?hs ?h1 ?_); (case hd => exact fun _ => rfl); (case hx => exact fun _ => rfl); (case hs => rfl); (case h1 => exact one3 rfl rfl rfl); intro gx w4 hb he4 hgx; have m0 := (blk_cell hb 0).trans rfl; have m1 := (blk_cell hb 1).trans rfl; have m2 := (blk_cell hb 2).trans rfl; have HE4 := Lib.hid he4; clear hb he4 hgx))
                    have HCF := Lib.hid (ContainsFunc_Str x.brs B cB _ _ _ w4 (QR.out.ext HE4.out) (fun _ _ => by kernel_rfl) (fun y w5 h5 => HT.out y w5 ((hE.out.trans HE4.out).trans h5)))
                    have HM4 : Hid (MapIB w4 bm (setC (fx.take k))) := Lib.hid (HM.out.ext HE4.out)
                    have QR4 := Lib.hid (QR.out.ext HE4.out)
                    have HEw4 : Hid (Ext w w4) := Lib.hid (HEw.out.trans HE4.out)
                    have HE24 : Hid (Ext w2 w4) := Lib.hid (hE.out.trans HE4.out)
                    clear q0 q1 q2 HM QR HLK HEw
                    cases hany : x.brs.any (fun b => decide (idx g.brs b < 0)) with
                    | true =>
                      have HR : Hid (checkF g fx = 6) := Lib.hid (HAT.out 6 (fxErr_6 HBF.out hany) (by decide))
                      rw [hany] at HCF
                      clear hany HAT
                      go_wp2_with fail
                      refine HCF.out.mono ?_
                      rintro e w5 ⟨rfl, he5⟩
                      have HE5 := Lib.hid (HEw4.out.trans he5)
                      clear he5
                      go_wp2
                      go_ret
                      exact ⟨ret_int HR.out.symm, HE5.out⟩
                    | false =>
                      have HAN := Lib.hid hany
                      rw [hany] at HCF
                      clear hany
                      go_wp2_with fail
                      refine HCF.out.mono ?_
                      rintro e w5 ⟨rfl, he5⟩
                      replace m0 := he5.cell m0
                      replace m1 := he5.cell m1
                      replace m2 := he5.cell m2
                      have HE5 := Lib.hid (HEw4.out.trans he5)
                      have HE25 := Lib.hid (HE24.out.trans he5)
                      have HM5 : Hid (MapIB w5 bm (setC (fx.take k))) := Lib.hid (HM4.out.ext he5)
                      have QR5 := Lib.hid (QR4.out.ext he5)
                      clear he5 HM4 QR4 HEw4 HE24 HCF hE HE4
                      go_wp2
                      go_loop [57] (fun ix => ∃ t : Nat, t ≤ x.brs.length ∧ ix = .int .i64 (t : Int) ∧ Hid (∀ (i : Nat) (y : Str), i < t → x.brs[i]? = some y → ((x.brs.take i).any fun z => decide (z = y)) = false)) (fun i => x.brs.length - (intOf i).toNat)
                      case atStart => exact ⟨0, Nat.zero_le _, rfl, fun i y h => absurd h (by omega)⟩
                      case round =>
                        obtain ⟨t, ht, rfl, hn2⟩ := hrel
                        by_cases hlt2 : t < x.brs.length
                        · have hy : x.brs[t]? = some x.brs[t] := List.getElem?_eq_getElem hlt2
                          generalize x.brs[t] = y at hy
                          obtain ⟨ad2, rfl, z0⟩ := QR5.out.str hy
                          have HY := Lib.hid hy
                          have HCT := Lib.hid (Contains_Str_n (x.brs.take t) y (some ad2) t cB w5 (QR5.out.take t) (by rw [List.length_take]; omega))
                          have htc : t ≤ cB := by omega
                          clear hy
                          cases hd : (x.brs.take t).any (fun z => decide (z = y)) with
                          | true =>
                            have HR : Hid (checkF g fx = 14) := Lib.hid (HAT.out 14 (fxErr_14 HBF.out HAN.out (dupStr_t HY.out hd)) (by decide))
                            rw [hd] at HCT
                            clear hd HAT
                            go_wp2_with ((with_reducible refine ev_cut (m := t) (A := some ad2) (n := x.brs.length) (cap := cB) (k := .i64) Tryz.underlying78 (info_parts iStr).choose_spec.1 ?hx ?hh htc ?_); (case hx => rfl); (case hh => rfl))
                            go_wp2_with fail
                            refine HCT.out.mono ?_
                            rintro e wz ⟨rfl, rfl⟩
                            go_wp2
                            go_ret
                            exact ⟨ret_int HR.out.symm, HE5.out⟩
                          | false =>
                            have HN : Hid (∀ (i : Nat) (y : Str), i < t + 1 → x.brs[i]? = some y → ((x.brs.take i).any fun z => decide (z = y)) = false) := Lib.hid (by
                              intro i u hi hu
                              rcases Nat.lt_succ_iff_lt_or_eq.1 hi with h | rfl
                              · exact hn2.out i u h hu
                              · rw [HY.out] at hu; cases hu; exact hd)
                            rw [hd] at HCT
                            clear hd
                            go_wp2_with ((with_reducible refine ev_cut (m := t) (A := some ad2) (n := x.brs.length) (cap := cB) (k := .i64) Tryz.underlying78 (info_parts iStr).choose_spec.1 ?hx ?hh htc ?_); (case hx => rfl); (case hh => rfl))
                            go_wp2_with fail
                            refine HCT.out.mono ?_
                            rintro e wz ⟨rfl, rfl⟩
                            go_wp2
                            go_round
                            case rel => exact ⟨t + 1, by omega, by go_num, HN.out⟩
                            case measure => simp [intOf]; omega
                        · have HDU : Hid (dupStr x.brs = false) := Lib.hid (dupStr_f fun i y hy => hn2.out i y (by have := (List.getElem?_eq_some_iff.1 hy).1; omega) hy)
                          have HGC := Lib.hid (setC_get (fx.take k) x.cls)
                          clear hn2
                          cases hc : (fx.take k).any (fun p => decide (p.cls = x.cls)) with
                          | true =>
                            have HR : Hid (checkF g fx = 14) := Lib.hid (HAT.out 14 (fxErr_14b HBF.out HAN.out HDU.out hc) (by decide))
                            have hlk : (Instr.lookup 238 (.map (some bm)) (.int .i64 x.cls) false).run Tryz.prog w5 = .ok (.bool true) w5 := by
                              have := MapIB.look HM5.out x.cls
                              rw [HGC.out, hc] at this
                              exact this
                            clear hc HAT
                            go_wp2
                            go_ret
                            exact ⟨ret_int HR.out.symm, HE5.out⟩
                          | false =>
                            have HFT : Hid (FxTo g fx (k + 1)) := Lib.hid (hn.out.succ HX.out (fxErr_0 HBF.out HAN.out HDU.out hc))
                            have hlk : (Instr.lookup 238 (.map (some bm)) (.int .i64 x.cls) false).run Tryz.prog w5 = .ok (.bool false) w5 := by
                              have := MapIB.look HM5.out x.cls
                              rw [HGC.out, hc] at this
                              exact this
                            clear hc HAT
                            go_wp2_with (with_reducible refine stop_mapUpdate ?_)
                            refine Stop.go ?_
                            refine ev_putIB (v := true) rfl rfl rfl HM5.out ?_
                            intro w6 hm6 ht6
                            have HM6 : Hid (MapIB w6 bm (setC (fx.take (k + 1)))) := Lib.hid (by rw [HST.out]; exact hm6)
                            have HE6 := Lib.hid (ht6.ext HE25.out HB.out)
                            clear hm6 ht6 hlk m0 m1 m2
                            go_wp2
                            go_roundw
                            case rel => exact ⟨k + 1, by omega, by go_num, HM6.out, HFT.out, HE6.out⟩
                            case measure => simp [intOf]; omega
        · have HR : Hid (checkF g fx = 0) := Lib.hid (checkF_all hck.out H30.out (fun j x hj hx => hn.out j x (by omega) hx))
          have HEe : Hid (Ext w wr) := Lib.hid (HE.out.trans (HE2.out.trans hE.out))
          clear HM
          go_wp2
          go_ret
          exact ⟨ret_int HR.out.symm, HEe.out⟩
  · have e9 : (checkL g != 0) = true := bne_iff_ne.2 hck
    have HR := Lib.hid (checkF_led (fx := fx) hck)
    have HC : Hid (∀ w2, Ext w w2 → _) := Lib.hid fun w2 (he : Ext w w2) => ledger_Check g _ w2 (hv.ext he)
    rw [HR.out]
    clear hck HR
    generalize checkL g = z at *
    go_enter Tryz.func74, Tryz.ntmps74
    go_wp2_with (with_reducible refine stop_box ?_)
    refine Stop.go ?_
    refine ev_box3 (c0 := .slice A0 g.known.length c0) (c1 := .slice A1 g.brs.length c1) (c2 := .slice A2 g.evs.length c2) rfl ?_
    intro g1 w1 hb_g1 he hg_g1 k0 k1 k2
    have HE_w1 := Lib.hid he
    clear he r0 r1 r2 hv hf hb_g1 hg_g1
    go_wp2_with fail
    refine (HC.out  w1 HE_w1.out).mono ?_
    rintro e w2 ⟨rfl, he_w2⟩
    replace k0 := he_w2.cell k0
    replace k1 := he_w2.cell k1
    replace k2 := he_w2.cell k2
    have HE_w2 : Hid (Ext w w2) := Lib.hid (HE_w1.out.trans he_w2)
    clear he_w2 HE_w1
    go_wp2
    go_ret
    exact ⟨rfl, HE_w2.out⟩
end Go.Proofs.YtgibdafkidkahaaGreatDoor
