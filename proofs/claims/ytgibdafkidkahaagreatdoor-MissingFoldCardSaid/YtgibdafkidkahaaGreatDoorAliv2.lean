/- Derived: walks: the chapter's example comes out as the chapter says. -/
import Derived.Test.YtgibdafkidkahaaGreatDoorAlive
set_option linter.unusedVariables false
set_option linter.unusedSimpArgs false
namespace Go.Proofs.YtgibdafkidkahaaGreatDoor
open Go.RowKit

/-- An operation whose guard holds. -/
theorem wp_guarded {P : Program} {ops : Array Oper} {rest : List Oper} {a : Act} {Q : Exit → Act → World → Prop} {w : World} {d : Option Tmp} {op : Op} {ty : TypeId} {pos : String} {af : Array Edge} {gd : Option (Nat × Bool)}
    (hw : Region.wanted { dst := d, op := op, type := ty, pos := pos, after := af, guard := gd } (yielded ops a.tmps) = true)
    (h : wpList P ops Q ({ dst := d, op := op, type := ty, pos := pos, after := af, guard := none } :: rest) a w) :
    wpList P ops Q ({ dst := d, op := op, type := ty, pos := pos, after := af, guard := gd } :: rest) a w := by
  simp only [wpList, hw, if_true]
  simp only [wpList, Region.wanted, if_true] at h
  exact h
set_option maxRecDepth 100000 in
set_option maxHeartbeats 4000000 in
theorem law34_alive (w : World) : Calls Tryz.prog 27 #[] w fun e w' => e = .returned (.bool true) ∧ Ext w w' := by
  go_enter Tryz.func27, Tryz.ntmps27
  go_wp2_with fail
  refine (law34_example w).mono ?_
  rintro e w1 ⟨v1, rfl, hv1, he1⟩
  have HV1 := Lib.hid hv1
  have HE1 := Lib.hid he1
  clear hv1 he1
  go_wp2_with fail
  refine (law34_fixes w1).mono ?_
  rintro e w2 ⟨A2, c2, rfl, hf2, he2⟩
  have HG2 := Lib.hid (missing_Gaps exG exF v1 A2 c2 w2 (HV1.out.ext he2) hf2)
  have HE2 := Lib.hid (HE1.out.trans he2)
  clear hf2 he2
  go_wp2_with fail
  refine HG2.out.mono ?_
  rintro e w3 ⟨r3, rfl, ho3, he3⟩
  rw [ex_check]
  rw [ex_gaps] at ho3
  have HO3 := Lib.hid ho3
  have HE3 := Lib.hid (HE2.out.trans he3)
  clear ho3 he3
  go_wp2_with fail
  refine (law34_example w3).mono ?_
  rintro e w4 ⟨v4, rfl, hv4, he4⟩
  have HV4 := Lib.hid hv4
  have HO4 := Lib.hid (HO3.out.ext he4)
  have HE4 := Lib.hid (HE3.out.trans he4)
  clear hv4 he4
  go_wp2_with fail
  refine (law34_fixes w4).mono ?_
  rintro e w5 ⟨A5, c5, rfl, hf5, he5⟩
  have HG5 := Lib.hid (missing_Text exG exF v4 A5 c5 w5 (HV4.out.ext he5) hf5)
  have HO5 := Lib.hid (HO4.out.ext he5)
  have HE5 := Lib.hid (HE4.out.trans he5)
  clear hf5 he5
  go_wp2_with fail
  refine HG5.out.mono ?_
  rintro e w6 ⟨rfl, he6⟩
  rw [ex_check, ex_text]
  have HO6 := Lib.hid (HO5.out.ext he6)
  have HE6 := Lib.hid (HE5.out.trans he6)
  clear he6
  go_wp2_with fail
  refine (law34_example w6).mono ?_
  rintro e w7 ⟨v7, rfl, hv7, he7⟩
  have HV7 := Lib.hid hv7
  have HO7 := Lib.hid (HO6.out.ext he7)
  have HE7 := Lib.hid (HE6.out.trans he7)
  clear hv7 he7
  go_wp2_with fail
  refine (law34_fixes w7).mono ?_
  rintro e w8 ⟨A8, c8, rfl, hf8, he8⟩
  have HG8 := Lib.hid (missing_Worst exG exF v7 A8 c8 w8 (HV7.out.ext he8) hf8)
  have HO8 := Lib.hid (HO7.out.ext he8)
  have HE8 := Lib.hid (HE7.out.trans he8)
  clear hf8 he8
  go_wp2_with fail
  refine HG8.out.mono ?_
  rintro e w9 ⟨rfl, he9⟩
  rw [ex_worstE, ex_worst]
  have HO9 := Lib.hid (HO8.out.ext he9)
  have HE9 := Lib.hid (HE8.out.trans he9)
  clear he9 HG2 HG5 HG8 HO3 HO4 HO5 HO6 HO7 HO8 HE1 HE2 HE3 HE4 HE5 HE6 HE7 HE8 HV1 HV4 HV7
  go_wp2_with (with_reducible refine stop_lit ?_)
  refine Stop.go ?_
  refine wp_guarded rfl ?_
  refine ev_l2 (y1 := .agg #[.string sR1, .int .i64 1, .int .i64 9]) (y2 := .agg #[.string sR1, .int .i64 3, .int .i64 5]) rfl rfl (litGp2 sR1 sR1 1 9 3 5) ?_
  intro g10 w10 hb10 he10 hg10
  obtain ⟨A9, c9, rfl, hc9, hr9⟩ := (HO9.out.ext he10).sl
  have HS := Lib.hid (ref34_Same _ _ A9 (some ⟨g10, 0, none⟩) c9 2 w10 hr9 (Rd.blk (E := elGp) (xs := [⟨sR1, 1, 9⟩, ⟨sR1, 3, 5⟩]) (css := [[.string sR1, .int .i64 1, .int .i64 9], [.string sR1, .int .i64 3, .int .i64 5]]) (ok := fun _ => True) hb10 rfl (by decide) (.cons rfl (.cons rfl .nil))))
  rw [decide_eq_true rfl] at HS
  have HE10 := Lib.hid (HE9.out.trans he10)
  clear hb10 he10 hg10 hc9 hr9 HO9 HE9
  go_wp2_with fail
  refine HS.out.mono ?_
  rintro e w11 ⟨rfl, he11⟩
  have HE11 := Lib.hid (HE10.out.trans he11)
  clear he11 HS HE10
  go_wp2
  go_ret
  exact ⟨rfl, HE11.out⟩
end Go.Proofs.YtgibdafkidkahaaGreatDoor
