/- Derived: the law MissingTells: its walk. -/
import Derived.Test.YtgibdafkidkahaaGreatDoorMText
import Derived.Test.YtgibdafkidkahaaGreatDoorGreat
set_option linter.unusedVariables false
set_option linter.unusedSimpArgs false
namespace Go.Proofs.YtgibdafkidkahaaGreatDoor
open Go.RowKit

set_option maxRecDepth 100000 in
set_option maxHeartbeats 4000000 in
theorem law_tells (g : Lg) (fx : List Fx) (nm : Str) (n : Int) (v : Value) (A : Option Addr) (c : Nat) (w : World) (hv : LgV w v g) (hf : Rd elFx w A fx) :
    Calls Tryz.prog 3 #[v, .slice A fx.length c, .string nm, .int .i64 n] w fun e w' => e = .returned (.bool true) ∧ Ext w w' := by
  obtain ⟨A0, c0, A1, c1, A2, c2, rfl, h0, h1, h2, r0, r1, r2⟩ := hv.ex
  go_enter Tryz.func3, Tryz.ntmps3
  go_wp2_with (with_reducible refine stop_box ?_)
  refine Stop.go ?_
  refine ev_box3 (c0 := .slice A0 g.known.length c0) (c1 := .slice A1 g.brs.length c1) (c2 := .slice A2 g.evs.length c2) rfl ?_
  intro g1 w1 hb_g1 he hg_g1 k0 k1 k2
  have HE := Lib.hid he
  have HV := Lib.hid (hv.ext he)
  have RF := Lib.hid (hf.ext he)
  clear he r0 r1 r2 hv hf hb_g1 hg_g1
  go_wp2_with fail
  refine (ref34_Great g fx _ A c w1 HV.out RF.out).mono ?_
  rintro e w2 ⟨b, rfl, he2⟩
  replace k0 := he2.cell k0
  replace k1 := he2.cell k1
  replace k2 := he2.cell k2
  have HE2 := Lib.hid (HE.out.trans he2)
  have HV2 := Lib.hid (HV.out.ext he2)
  have RF2 := Lib.hid (RF.out.ext he2)
  clear he2 HE HV RF
  cases b with
  | true =>
    go_wp2
    go_ret
    exact ⟨rfl, HE2.out⟩
  | false =>
    by_cases h100 : 100 < nm.size
    · go_wp2
      go_ret
      exact ⟨rfl, HE2.out⟩
    · go_wp2_with fail
      refine (missing_Then g fx nm n _ A c w2 HV2.out RF2.out).mono ?_
      rintro e w3 ⟨r3, rfl, ho3, he3⟩
      obtain ⟨A3, c3, rfl, _, hr3⟩ := ho3.sl
      replace k0 := he3.cell k0
      replace k1 := he3.cell k1
      replace k2 := he3.cell k2
      have HE3 := Lib.hid (HE2.out.trans he3)
      have HV3 := Lib.hid (HV2.out.ext he3)
      have RF3 := Lib.hid (RF2.out.ext he3)
      have HR3 := Lib.hid hr3
      clear he3 HE2 HV2 RF2 ho3 hr3
      go_wp2_with fail
      refine (ref34_Then g fx nm n _ A c w3 HV3.out RF3.out).mono ?_
      rintro e w4 ⟨r4, rfl, ho4, he4⟩
      obtain ⟨A4, c4, rfl, _, hr4⟩ := ho4.sl
      replace k0 := he4.cell k0
      replace k1 := he4.cell k1
      replace k2 := he4.cell k2
      have HE4 := Lib.hid (HE3.out.trans he4)
      have HV4 := Lib.hid (HV3.out.ext he4)
      have RF4 := Lib.hid (RF3.out.ext he4)
      have HR3' := Lib.hid (HR3.out.ext he4)
      have HR4 := Lib.hid hr4
      clear he4 HE3 HV3 RF3 ho4 hr4 HR3
      go_wp2_with fail
      refine (missing_Text g fx _ A c w4 HV4.out RF4.out).mono ?_
      rintro e w5 ⟨rfl, he5⟩
      replace k0 := he5.cell k0
      replace k1 := he5.cell k1
      replace k2 := he5.cell k2
      have HE5 := Lib.hid (HE4.out.trans he5)
      have HV5 := Lib.hid (HV4.out.ext he5)
      have RF5 := Lib.hid (RF4.out.ext he5)
      have HR5 := Lib.hid (HR3'.out.ext he5)
      have HR6 := Lib.hid (HR4.out.ext he5)
      clear he5 HE4 HV4 RF4 HR3' HR4
      go_wp2_with fail
      refine (ref34_Text g fx _ A c w5 HV5.out RF5.out).mono ?_
      rintro e w6 ⟨rfl, he6⟩
      have HE6 := Lib.hid (HE5.out.trans he6)
      have HS := Lib.hid (ref34_Same _ _ A3 A4 c3 c4 w6 (HR5.out.ext he6) (HR6.out.ext he6))
      rw [decide_eq_true rfl] at HS
      clear he6 HE5 HV5 RF5 HR5 HR6 k0 k1 k2
      generalize textL g fx = s at *
      generalize checkF g fx = z at *
      generalize thenE g fx nm n = y at *
      go_wp2_with fail
      refine HS.out.mono ?_
      rintro e w7 ⟨rfl, he7⟩
      have HE7 := Lib.hid (HE6.out.trans he7)
      clear he7 HE6 HS
      go_wp2
      go_ret
      exact ⟨rfl, HE7.out⟩
end Go.Proofs.YtgibdafkidkahaaGreatDoor
