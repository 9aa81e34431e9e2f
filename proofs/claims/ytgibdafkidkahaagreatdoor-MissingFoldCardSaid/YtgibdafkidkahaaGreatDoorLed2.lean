/- Derived: walks: the reference of layer 29: what is allowed. -/
import Derived.Test.YtgibdafkidkahaaGreatDoorLed1
set_option linter.unusedVariables false
set_option linter.unusedSimpArgs false
namespace Go.Proofs.YtgibdafkidkahaaGreatDoor
open Go.RowKit

set_option maxRecDepth 100000 in
set_option maxHeartbeats 4000000 in
theorem ref29_allowed (g : Lg) (s : List Ev) (x : Ev) (v : Value) (A : Option Addr) (c : Nat) (w : World) (hv : LgV w v g) (hs : Rd elEv w A s) (hc : s.length ≤ c) :
    Calls Tryz.prog 111 #[v, .slice A s.length c, .agg #[.int .u8 x.kind, .string x.chg]] w fun e w' => e = .returned (.int .i64 (allowed g s x)) ∧ Ext w w' := by
  obtain ⟨kd, chg⟩ := x
  obtain ⟨A0, c0, A1, c1, A2, c2, rfl, h0, h1, h2, r0, r1, r2⟩ := hv.ex
  have HC : Hid (∀ w2, Ext w w2 → _) := Lib.hid fun w2 (he : Ext w w2) => ref29_Class g chg _ w2 (hv.ext he)
  have HI : Hid (∀ w2, Ext w w2 → _) := Lib.hid fun w2 (he : Ext w w2) => ref29_In g s (cls g chg) _ A c w2 (hv.ext he) (hs.ext he) hc
  have HL : Hid (∀ w2, Ext w w2 → _) := Lib.hid fun w2 (he : Ext w w2) => ref29_last g s (cls g chg) _ A c w2 (hv.ext he) (hs.ext he) hc
  have HR : Hid (allowed g s ⟨kd, chg⟩ = allowS (decide (0 ≤ lastP g s (cls g chg))) (inP g s (cls g chg)) kd) := Lib.hid rfl
  clear r0 r1 r2 hv hs
  generalize lastP g s (cls g chg) = la at *
  generalize inP g s (cls g chg) = inn at *
  generalize cls g chg = z at *
  rw [HR.out]
  clear HR
  by_cases hk1 : kd < 1
  · have HV : Hid (allowS (decide (0 ≤ la)) inn kd = 2) := Lib.hid (if_pos (.inl hk1))
    go_enter Tryz.func111, Tryz.ntmps111
    go_wp2_with (with_reducible refine stop_box ?_)
    refine Stop.go ?_
    refine ev_box3 (c0 := .slice A0 g.known.length c0) (c1 := .slice A1 g.brs.length c1) (c2 := .slice A2 g.evs.length c2) rfl ?_
    intro g1 w1 hb_g1 he hg_g1 k0 k1 k2
    go_wp2_with (with_reducible refine stop_box ?_)
    refine Stop.go ?_
    refine ev_box2 (c0 := .int .u8 kd) (c1 := .string chg) rfl ?_
    intro g2 w2 hb2 he2 hg2 m0 m1
    replace k0 := he2.cell k0
    replace k1 := he2.cell k1
    replace k2 := he2.cell k2
    have HE_w2 : Hid (Ext w w2) := Lib.hid (he.trans he2)
    clear he he2 hb_g1 hg_g1 hb2 hg2
    go_wp2_with fail
    refine (HC.out w2 HE_w2.out).mono ?_
    rintro e w3 ⟨rfl, he_w3⟩
    replace k0 := he_w3.cell k0
    replace k1 := he_w3.cell k1
    replace k2 := he_w3.cell k2
    replace m0 := he_w3.cell m0
    replace m1 := he_w3.cell m1
    have HE_w3 : Hid (Ext w w3) := Lib.hid (HE_w2.out.trans he_w3)
    clear he_w3 HE_w2
    go_wp2
    go_ret
    exact ⟨ret_int (HV.out.symm), HE_w3.out⟩
  · by_cases hk4 : 4 < kd
    · have HV : Hid (allowS (decide (0 ≤ la)) inn kd = 2) := Lib.hid (if_pos (.inr hk4))
      go_enter Tryz.func111, Tryz.ntmps111
      go_wp2_with (with_reducible refine stop_box ?_)
      refine Stop.go ?_
      refine ev_box3 (c0 := .slice A0 g.known.length c0) (c1 := .slice A1 g.brs.length c1) (c2 := .slice A2 g.evs.length c2) rfl ?_
      intro g1 w1 hb_g1 he hg_g1 k0 k1 k2
      go_wp2_with (with_reducible refine stop_box ?_)
      refine Stop.go ?_
      refine ev_box2 (c0 := .int .u8 kd) (c1 := .string chg) rfl ?_
      intro g2 w2 hb2 he2 hg2 m0 m1
      replace k0 := he2.cell k0
      replace k1 := he2.cell k1
      replace k2 := he2.cell k2
      have HE_w2 : Hid (Ext w w2) := Lib.hid (he.trans he2)
      clear he he2 hb_g1 hg_g1 hb2 hg2
      go_wp2_with fail
      refine (HC.out w2 HE_w2.out).mono ?_
      rintro e w3 ⟨rfl, he_w3⟩
      replace k0 := he_w3.cell k0
      replace k1 := he_w3.cell k1
      replace k2 := he_w3.cell k2
      replace m0 := he_w3.cell m0
      replace m1 := he_w3.cell m1
      have HE_w3 : Hid (Ext w w3) := Lib.hid (HE_w2.out.trans he_w3)
      clear he_w3 HE_w2
      go_wp2
      go_ret
      exact ⟨ret_int (HV.out.symm), HE_w3.out⟩
    · cases inn with
      | true =>
        rcases (show kd = 1 ∨ kd = 2 ∨ kd = 3 ∨ kd = 4 by omega) with rfl | rfl | rfl | rfl
        · clear hk1 hk4
          go_enter Tryz.func111, Tryz.ntmps111
          go_wp2_with (with_reducible refine stop_box ?_)
          refine Stop.go ?_
          refine ev_box3 (c0 := .slice A0 g.known.length c0) (c1 := .slice A1 g.brs.length c1) (c2 := .slice A2 g.evs.length c2) rfl ?_
          intro g1 w1 hb_g1 he hg_g1 k0 k1 k2
          go_wp2_with (with_reducible refine stop_box ?_)
          refine Stop.go ?_
          refine ev_box2 (c0 := .int .u8 1) (c1 := .string chg) rfl ?_
          intro g2 w2 hb2 he2 hg2 m0 m1
          replace k0 := he2.cell k0
          replace k1 := he2.cell k1
          replace k2 := he2.cell k2
          have HE_w2 : Hid (Ext w w2) := Lib.hid (he.trans he2)
          clear he he2 hb_g1 hg_g1 hb2 hg2
          go_wp2_with fail
          refine (HC.out w2 HE_w2.out).mono ?_
          rintro e w3 ⟨rfl, he_w3⟩
          replace k0 := he_w3.cell k0
          replace k1 := he_w3.cell k1
          replace k2 := he_w3.cell k2
          replace m0 := he_w3.cell m0
          replace m1 := he_w3.cell m1
          have HE_w3 : Hid (Ext w w3) := Lib.hid (HE_w2.out.trans he_w3)
          clear he_w3 HE_w2
          go_wp2_with fail
          refine (HI.out w3 HE_w3.out).mono ?_
          rintro e w4 ⟨rfl, he_w4⟩
          replace k0 := he_w4.cell k0
          replace k1 := he_w4.cell k1
          replace k2 := he_w4.cell k2
          replace m0 := he_w4.cell m0
          replace m1 := he_w4.cell m1
          have HE_w4 : Hid (Ext w w4) := Lib.hid (HE_w3.out.trans he_w4)
          clear he_w4 HE_w3
          go_wp2
          go_ret
          exact ⟨ret_int (rfl), HE_w4.out⟩
        · clear hk1 hk4
          go_enter Tryz.func111, Tryz.ntmps111
          go_wp2_with (with_reducible refine stop_box ?_)
          refine Stop.go ?_
          refine ev_box3 (c0 := .slice A0 g.known.length c0) (c1 := .slice A1 g.brs.length c1) (c2 := .slice A2 g.evs.length c2) rfl ?_
          intro g1 w1 hb_g1 he hg_g1 k0 k1 k2
          go_wp2_with (with_reducible refine stop_box ?_)
          refine Stop.go ?_
          refine ev_box2 (c0 := .int .u8 2) (c1 := .string chg) rfl ?_
          intro g2 w2 hb2 he2 hg2 m0 m1
          replace k0 := he2.cell k0
          replace k1 := he2.cell k1
          replace k2 := he2.cell k2
          have HE_w2 : Hid (Ext w w2) := Lib.hid (he.trans he2)
          clear he he2 hb_g1 hg_g1 hb2 hg2
          go_wp2_with fail
          refine (HC.out w2 HE_w2.out).mono ?_
          rintro e w3 ⟨rfl, he_w3⟩
          replace k0 := he_w3.cell k0
          replace k1 := he_w3.cell k1
          replace k2 := he_w3.cell k2
          replace m0 := he_w3.cell m0
          replace m1 := he_w3.cell m1
          have HE_w3 : Hid (Ext w w3) := Lib.hid (HE_w2.out.trans he_w3)
          clear he_w3 HE_w2
          go_wp2_with fail
          refine (HI.out w3 HE_w3.out).mono ?_
          rintro e w4 ⟨rfl, he_w4⟩
          replace k0 := he_w4.cell k0
          replace k1 := he_w4.cell k1
          replace k2 := he_w4.cell k2
          replace m0 := he_w4.cell m0
          replace m1 := he_w4.cell m1
          have HE_w4 : Hid (Ext w w4) := Lib.hid (HE_w3.out.trans he_w4)
          clear he_w4 HE_w3
          go_wp2
          go_ret
          exact ⟨ret_int (rfl), HE_w4.out⟩
        · clear hk1 hk4
          go_enter Tryz.func111, Tryz.ntmps111
          go_wp2_with (with_reducible refine stop_box ?_)
          refine Stop.go ?_
          refine ev_box3 (c0 := .slice A0 g.known.length c0) (c1 := .slice A1 g.brs.length c1) (c2 := .slice A2 g.evs.length c2) rfl ?_
          intro g1 w1 hb_g1 he hg_g1 k0 k1 k2
          go_wp2_with (with_reducible refine stop_box ?_)
          refine Stop.go ?_
          refine ev_box2 (c0 := .int .u8 3) (c1 := .string chg) rfl ?_
          intro g2 w2 hb2 he2 hg2 m0 m1
          replace k0 := he2.cell k0
          replace k1 := he2.cell k1
          replace k2 := he2.cell k2
          have HE_w2 : Hid (Ext w w2) := Lib.hid (he.trans he2)
          clear he he2 hb_g1 hg_g1 hb2 hg2
          go_wp2_with fail
          refine (HC.out w2 HE_w2.out).mono ?_
          rintro e w3 ⟨rfl, he_w3⟩
          replace k0 := he_w3.cell k0
          replace k1 := he_w3.cell k1
          replace k2 := he_w3.cell k2
          replace m0 := he_w3.cell m0
          replace m1 := he_w3.cell m1
          have HE_w3 : Hid (Ext w w3) := Lib.hid (HE_w2.out.trans he_w3)
          clear he_w3 HE_w2
          go_wp2_with fail
          refine (HI.out w3 HE_w3.out).mono ?_
          rintro e w4 ⟨rfl, he_w4⟩
          replace k0 := he_w4.cell k0
          replace k1 := he_w4.cell k1
          replace k2 := he_w4.cell k2
          replace m0 := he_w4.cell m0
          replace m1 := he_w4.cell m1
          have HE_w4 : Hid (Ext w w4) := Lib.hid (HE_w3.out.trans he_w4)
          clear he_w4 HE_w3
          go_wp2_with fail
          refine (HI.out w4 HE_w4.out).mono ?_
          rintro e w5 ⟨rfl, he_w5⟩
          replace k0 := he_w5.cell k0
          replace k1 := he_w5.cell k1
          replace k2 := he_w5.cell k2
          replace m0 := he_w5.cell m0
          replace m1 := he_w5.cell m1
          have HE_w5 : Hid (Ext w w5) := Lib.hid (HE_w4.out.trans he_w5)
          clear he_w5 HE_w4
          go_wp2
          go_ret
          exact ⟨ret_int (rfl), HE_w5.out⟩
        · clear hk1 hk4
          go_enter Tryz.func111, Tryz.ntmps111
          go_wp2_with (with_reducible refine stop_box ?_)
          refine Stop.go ?_
          refine ev_box3 (c0 := .slice A0 g.known.length c0) (c1 := .slice A1 g.brs.length c1) (c2 := .slice A2 g.evs.length c2) rfl ?_
          intro g1 w1 hb_g1 he hg_g1 k0 k1 k2
          go_wp2_with (with_reducible refine stop_box ?_)
          refine Stop.go ?_
          refine ev_box2 (c0 := .int .u8 4) (c1 := .string chg) rfl ?_
          intro g2 w2 hb2 he2 hg2 m0 m1
          replace k0 := he2.cell k0
          replace k1 := he2.cell k1
          replace k2 := he2.cell k2
          have HE_w2 : Hid (Ext w w2) := Lib.hid (he.trans he2)
          clear he he2 hb_g1 hg_g1 hb2 hg2
          go_wp2_with fail
          refine (HC.out w2 HE_w2.out).mono ?_
          rintro e w3 ⟨rfl, he_w3⟩
          replace k0 := he_w3.cell k0
          replace k1 := he_w3.cell k1
          replace k2 := he_w3.cell k2
          replace m0 := he_w3.cell m0
          replace m1 := he_w3.cell m1
          have HE_w3 : Hid (Ext w w3) := Lib.hid (HE_w2.out.trans he_w3)
          clear he_w3 HE_w2
          go_wp2_with fail
          refine (HI.out w3 HE_w3.out).mono ?_
          rintro e w4 ⟨rfl, he_w4⟩
          replace k0 := he_w4.cell k0
          replace k1 := he_w4.cell k1
          replace k2 := he_w4.cell k2
          replace m0 := he_w4.cell m0
          replace m1 := he_w4.cell m1
          have HE_w4 : Hid (Ext w w4) := Lib.hid (HE_w3.out.trans he_w4)
          clear he_w4 HE_w3
          go_wp2
          go_ret
          exact ⟨ret_int (rfl), HE_w4.out⟩
      | false =>
        rcases (show kd = 1 ∨ kd = 2 ∨ kd = 3 ∨ kd = 4 by omega) with rfl | rfl | rfl | rfl
        · clear hk1 hk4
          by_cases hla : 0 ≤ la
          · have HD : Hid (decide (0 ≤ la) = true) := Lib.hid (by simp [hla])
            go_enter Tryz.func111, Tryz.ntmps111
            go_wp2_with (with_reducible refine stop_box ?_)
            refine Stop.go ?_
            refine ev_box3 (c0 := .slice A0 g.known.length c0) (c1 := .slice A1 g.brs.length c1) (c2 := .slice A2 g.evs.length c2) rfl ?_
            intro g1 w1 hb_g1 he hg_g1 k0 k1 k2
            go_wp2_with (with_reducible refine stop_box ?_)
            refine Stop.go ?_
            refine ev_box2 (c0 := .int .u8 1) (c1 := .string chg) rfl ?_
            intro g2 w2 hb2 he2 hg2 m0 m1
            replace k0 := he2.cell k0
            replace k1 := he2.cell k1
            replace k2 := he2.cell k2
            have HE_w2 : Hid (Ext w w2) := Lib.hid (he.trans he2)
            clear he he2 hb_g1 hg_g1 hb2 hg2
            go_wp2_with fail
            refine (HC.out w2 HE_w2.out).mono ?_
            rintro e w3 ⟨rfl, he_w3⟩
            replace k0 := he_w3.cell k0
            replace k1 := he_w3.cell k1
            replace k2 := he_w3.cell k2
            replace m0 := he_w3.cell m0
            replace m1 := he_w3.cell m1
            have HE_w3 : Hid (Ext w w3) := Lib.hid (HE_w2.out.trans he_w3)
            clear he_w3 HE_w2
            go_wp2_with fail
            refine (HI.out w3 HE_w3.out).mono ?_
            rintro e w4 ⟨rfl, he_w4⟩
            replace k0 := he_w4.cell k0
            replace k1 := he_w4.cell k1
            replace k2 := he_w4.cell k2
            replace m0 := he_w4.cell m0
            replace m1 := he_w4.cell m1
            have HE_w4 : Hid (Ext w w4) := Lib.hid (HE_w3.out.trans he_w4)
            clear he_w4 HE_w3
            go_wp2_with fail
            refine (HL.out w4 HE_w4.out).mono ?_
            rintro e w5 ⟨rfl, he_w5⟩
            replace k0 := he_w5.cell k0
            replace k1 := he_w5.cell k1
            replace k2 := he_w5.cell k2
            replace m0 := he_w5.cell m0
            replace m1 := he_w5.cell m1
            have HE_w5 : Hid (Ext w w5) := Lib.hid (HE_w4.out.trans he_w5)
            clear he_w5 HE_w4
            go_wp2
            go_ret
            exact ⟨ret_int (by rw [HD.out]; rfl), HE_w5.out⟩
          · have hla2 : la < 0 := by omega
            have HD : Hid (decide (0 ≤ la) = false) := Lib.hid (by simp [hla])
            go_enter Tryz.func111, Tryz.ntmps111
            go_wp2_with (with_reducible refine stop_box ?_)
            refine Stop.go ?_
            refine ev_box3 (c0 := .slice A0 g.known.length c0) (c1 := .slice A1 g.brs.length c1) (c2 := .slice A2 g.evs.length c2) rfl ?_
            intro g1 w1 hb_g1 he hg_g1 k0 k1 k2
            go_wp2_with (with_reducible refine stop_box ?_)
            refine Stop.go ?_
            refine ev_box2 (c0 := .int .u8 1) (c1 := .string chg) rfl ?_
            intro g2 w2 hb2 he2 hg2 m0 m1
            replace k0 := he2.cell k0
            replace k1 := he2.cell k1
            replace k2 := he2.cell k2
            have HE_w2 : Hid (Ext w w2) := Lib.hid (he.trans he2)
            clear he he2 hb_g1 hg_g1 hb2 hg2
            go_wp2_with fail
            refine (HC.out w2 HE_w2.out).mono ?_
            rintro e w3 ⟨rfl, he_w3⟩
            replace k0 := he_w3.cell k0
            replace k1 := he_w3.cell k1
            replace k2 := he_w3.cell k2
            replace m0 := he_w3.cell m0
            replace m1 := he_w3.cell m1
            have HE_w3 : Hid (Ext w w3) := Lib.hid (HE_w2.out.trans he_w3)
            clear he_w3 HE_w2
            go_wp2_with fail
            refine (HI.out w3 HE_w3.out).mono ?_
            rintro e w4 ⟨rfl, he_w4⟩
            replace k0 := he_w4.cell k0
            replace k1 := he_w4.cell k1
            replace k2 := he_w4.cell k2
            replace m0 := he_w4.cell m0
            replace m1 := he_w4.cell m1
            have HE_w4 : Hid (Ext w w4) := Lib.hid (HE_w3.out.trans he_w4)
            clear he_w4 HE_w3
            go_wp2_with fail
            refine (HL.out w4 HE_w4.out).mono ?_
            rintro e w5 ⟨rfl, he_w5⟩
            replace k0 := he_w5.cell k0
            replace k1 := he_w5.cell k1
            replace k2 := he_w5.cell k2
            replace m0 := he_w5.cell m0
            replace m1 := he_w5.cell m1
            have HE_w5 : Hid (Ext w w5) := Lib.hid (HE_w4.out.trans he_w5)
            clear he_w5 HE_w4
            go_wp2
            go_ret
            exact ⟨ret_int (by rw [HD.out]; rfl), HE_w5.out⟩
        · clear hk1 hk4
          go_enter Tryz.func111, Tryz.ntmps111
          go_wp2_with (with_reducible refine stop_box ?_)
          refine Stop.go ?_
          refine ev_box3 (c0 := .slice A0 g.known.length c0) (c1 := .slice A1 g.brs.length c1) (c2 := .slice A2 g.evs.length c2) rfl ?_
          intro g1 w1 hb_g1 he hg_g1 k0 k1 k2
          go_wp2_with (with_reducible refine stop_box ?_)
          refine Stop.go ?_
          refine ev_box2 (c0 := .int .u8 2) (c1 := .string chg) rfl ?_
          intro g2 w2 hb2 he2 hg2 m0 m1
          replace k0 := he2.cell k0
          replace k1 := he2.cell k1
          replace k2 := he2.cell k2
          have HE_w2 : Hid (Ext w w2) := Lib.hid (he.trans he2)
          clear he he2 hb_g1 hg_g1 hb2 hg2
          go_wp2_with fail
          refine (HC.out w2 HE_w2.out).mono ?_
          rintro e w3 ⟨rfl, he_w3⟩
          replace k0 := he_w3.cell k0
          replace k1 := he_w3.cell k1
          replace k2 := he_w3.cell k2
          replace m0 := he_w3.cell m0
          replace m1 := he_w3.cell m1
          have HE_w3 : Hid (Ext w w3) := Lib.hid (HE_w2.out.trans he_w3)
          clear he_w3 HE_w2
          go_wp2_with fail
          refine (HI.out w3 HE_w3.out).mono ?_
          rintro e w4 ⟨rfl, he_w4⟩
          replace k0 := he_w4.cell k0
          replace k1 := he_w4.cell k1
          replace k2 := he_w4.cell k2
          replace m0 := he_w4.cell m0
          replace m1 := he_w4.cell m1
          have HE_w4 : Hid (Ext w w4) := Lib.hid (HE_w3.out.trans he_w4)
          clear he_w4 HE_w3
          go_wp2
          go_ret
          exact ⟨ret_int (by cases decide (0 ≤ la) <;> rfl), HE_w4.out⟩
        · clear hk1 hk4
          go_enter Tryz.func111, Tryz.ntmps111
          go_wp2_with (with_reducible refine stop_box ?_)
          refine Stop.go ?_
          refine ev_box3 (c0 := .slice A0 g.known.length c0) (c1 := .slice A1 g.brs.length c1) (c2 := .slice A2 g.evs.length c2) rfl ?_
          intro g1 w1 hb_g1 he hg_g1 k0 k1 k2
          go_wp2_with (with_reducible refine stop_box ?_)
          refine Stop.go ?_
          refine ev_box2 (c0 := .int .u8 3) (c1 := .string chg) rfl ?_
          intro g2 w2 hb2 he2 hg2 m0 m1
          replace k0 := he2.cell k0
          replace k1 := he2.cell k1
          replace k2 := he2.cell k2
          have HE_w2 : Hid (Ext w w2) := Lib.hid (he.trans he2)
          clear he he2 hb_g1 hg_g1 hb2 hg2
          go_wp2_with fail
          refine (HC.out w2 HE_w2.out).mono ?_
          rintro e w3 ⟨rfl, he_w3⟩
          replace k0 := he_w3.cell k0
          replace k1 := he_w3.cell k1
          replace k2 := he_w3.cell k2
          replace m0 := he_w3.cell m0
          replace m1 := he_w3.cell m1
          have HE_w3 : Hid (Ext w w3) := Lib.hid (HE_w2.out.trans he_w3)
          clear he_w3 HE_w2
          go_wp2_with fail
          refine (HI.out w3 HE_w3.out).mono ?_
          rintro e w4 ⟨rfl, he_w4⟩
          replace k0 := he_w4.cell k0
          replace k1 := he_w4.cell k1
          replace k2 := he_w4.cell k2
          replace m0 := he_w4.cell m0
          replace m1 := he_w4.cell m1
          have HE_w4 : Hid (Ext w w4) := Lib.hid (HE_w3.out.trans he_w4)
          clear he_w4 HE_w3
          go_wp2_with fail
          refine (HI.out w4 HE_w4.out).mono ?_
          rintro e w5 ⟨rfl, he_w5⟩
          replace k0 := he_w5.cell k0
          replace k1 := he_w5.cell k1
          replace k2 := he_w5.cell k2
          replace m0 := he_w5.cell m0
          replace m1 := he_w5.cell m1
          have HE_w5 : Hid (Ext w w5) := Lib.hid (HE_w4.out.trans he_w5)
          clear he_w5 HE_w4
          go_wp2
          go_ret
          exact ⟨ret_int (by cases decide (0 ≤ la) <;> rfl), HE_w5.out⟩
        · clear hk1 hk4
          by_cases hla : 0 ≤ la
          · have HD : Hid (decide (0 ≤ la) = true) := Lib.hid (by simp [hla])
            go_enter Tryz.func111, Tryz.ntmps111
            go_wp2_with (with_reducible refine stop_box ?_)
            refine Stop.go ?_
            refine ev_box3 (c0 := .slice A0 g.known.length c0) (c1 := .slice A1 g.brs.length c1) (c2 := .slice A2 g.evs.length c2) rfl ?_
            intro g1 w1 hb_g1 he hg_g1 k0 k1 k2
            go_wp2_with (with_reducible refine stop_box ?_)
            refine Stop.go ?_
            refine ev_box2 (c0 := .int .u8 4) (c1 := .string chg) rfl ?_
            intro g2 w2 hb2 he2 hg2 m0 m1
            replace k0 := he2.cell k0
            replace k1 := he2.cell k1
            replace k2 := he2.cell k2
            have HE_w2 : Hid (Ext w w2) := Lib.hid (he.trans he2)
            clear he he2 hb_g1 hg_g1 hb2 hg2
            go_wp2_with fail
            refine (HC.out w2 HE_w2.out).mono ?_
            rintro e w3 ⟨rfl, he_w3⟩
            replace k0 := he_w3.cell k0
            replace k1 := he_w3.cell k1
            replace k2 := he_w3.cell k2
            replace m0 := he_w3.cell m0
            replace m1 := he_w3.cell m1
            have HE_w3 : Hid (Ext w w3) := Lib.hid (HE_w2.out.trans he_w3)
            clear he_w3 HE_w2
            go_wp2_with fail
            refine (HI.out w3 HE_w3.out).mono ?_
            rintro e w4 ⟨rfl, he_w4⟩
            replace k0 := he_w4.cell k0
            replace k1 := he_w4.cell k1
            replace k2 := he_w4.cell k2
            replace m0 := he_w4.cell m0
            replace m1 := he_w4.cell m1
            have HE_w4 : Hid (Ext w w4) := Lib.hid (HE_w3.out.trans he_w4)
            clear he_w4 HE_w3
            go_wp2_with fail
            refine (HL.out w4 HE_w4.out).mono ?_
            rintro e w5 ⟨rfl, he_w5⟩
            replace k0 := he_w5.cell k0
            replace k1 := he_w5.cell k1
            replace k2 := he_w5.cell k2
            replace m0 := he_w5.cell m0
            replace m1 := he_w5.cell m1
            have HE_w5 : Hid (Ext w w5) := Lib.hid (HE_w4.out.trans he_w5)
            clear he_w5 HE_w4
            go_wp2
            go_ret
            exact ⟨ret_int (by rw [HD.out]; rfl), HE_w5.out⟩
          · have hla2 : la < 0 := by omega
            have HD : Hid (decide (0 ≤ la) = false) := Lib.hid (by simp [hla])
            go_enter Tryz.func111, Tryz.ntmps111
            go_wp2_with (with_reducible refine stop_box ?_)
            refine Stop.go ?_
            refine ev_box3 (c0 := .slice A0 g.known.length c0) (c1 := .slice A1 g.brs.length c1) (c2 := .slice A2 g.evs.length c2) rfl ?_
            intro g1 w1 hb_g1 he hg_g1 k0 k1 k2
            go_wp2_with (with_reducible refine stop_box ?_)
            refine Stop.go ?_
            refine ev_box2 (c0 := .int .u8 4) (c1 := .string chg) rfl ?_
            intro g2 w2 hb2 he2 hg2 m0 m1
            replace k0 := he2.cell k0
            replace k1 := he2.cell k1
            replace k2 := he2.cell k2
            have HE_w2 : Hid (Ext w w2) := Lib.hid (he.trans he2)
            clear he he2 hb_g1 hg_g1 hb2 hg2
            go_wp2_with fail
            refine (HC.out w2 HE_w2.out).mono ?_
            rintro e w3 ⟨rfl, he_w3⟩
            replace k0 := he_w3.cell k0
            replace k1 := he_w3.cell k1
            replace k2 := he_w3.cell k2
            replace m0 := he_w3.cell m0
            replace m1 := he_w3.cell m1
            have HE_w3 : Hid (Ext w w3) := Lib.hid (HE_w2.out.trans he_w3)
            clear he_w3 HE_w2
            go_wp2_with fail
            refine (HI.out w3 HE_w3.out).mono ?_
            rintro e w4 ⟨rfl, he_w4⟩
            replace k0 := he_w4.cell k0
            replace k1 := he_w4.cell k1
            replace k2 := he_w4.cell k2
            replace m0 := he_w4.cell m0
            replace m1 := he_w4.cell m1
            have HE_w4 : Hid (Ext w w4) := Lib.hid (HE_w3.out.trans he_w4)
            clear he_w4 HE_w3
            go_wp2_with fail
            refine (HL.out w4 HE_w4.out).mono ?_
            rintro e w5 ⟨rfl, he_w5⟩
            replace k0 := he_w5.cell k0
            replace k1 := he_w5.cell k1
            replace k2 := he_w5.cell k2
            replace m0 := he_w5.cell m0
            replace m1 := he_w5.cell m1
            have HE_w5 : Hid (Ext w w5) := Lib.hid (HE_w4.out.trans he_w5)
            clear he_w5 HE_w4
            go_wp2
            go_ret
            exact ⟨ret_int (by rw [HD.out]; rfl), HE_w5.out⟩
end Go.Proofs.YtgibdafkidkahaaGreatDoor
