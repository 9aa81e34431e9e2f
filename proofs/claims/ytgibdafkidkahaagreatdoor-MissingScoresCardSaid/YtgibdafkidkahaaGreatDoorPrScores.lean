/- Proved: MissingScores answers true at every input, and each argument reads behind the call as before. Conditions: the three listed tables hold what the program's text lays. -/
import Derived.Test.YtgibdafkidkahaaGreatDoorCards
import Derived.Test.YtgibdafkidkahaaGreatDoorTie
import Derived.Test.YtgibdafkidkahaaGreatDoorLScore
import Derived.Test.YtgibdafkidkahaaGreatDoorLift
import Derived.ProofKit
import Derived.LaidMore
import Derived.OpenShut
import Derived.Carry
import Derived.SevenTiedAt
set_option linter.unusedVariables false
namespace Go.Proofs.YtgibdafkidkahaaGreatDoor
open Go.ChangeShapes Go.WideShapes Go.ChangeAt Go.ChangeMaps Go.WideMaps Go.WideElems Go.RowKit
set_option maxRecDepth 100000

theorem missingScoresF0 : (Rows.missingScoresRow.wf (OpenSpec.ofChange Rows.missingScoresSpec) : Bool) = true := by kernel_rfl
theorem missingScoresF1 : (laidOutB Tryz.prog : Bool) = true := by kernel_rfl
theorem missingScoresF2 : (mapsRowed Tryz.prog : Bool) = true := by kernel_rfl
theorem missingScoresF3 : (Tryz.f5.params.all (Tryz.prog.readableRec ·) : Bool) = true := by kernel_rfl
theorem missingScoresF4 : (namedTie Tryz.prog Rows.missingScoresRow.named Rows.missingScoresSpec.vars : Bool) = true := by kernel_rfl
theorem missingScoresF5 : ((Rows.missingScoresRow.stops == []) : Bool) = true := by kernel_rfl
theorem missingScoresF6 : ((Tryz.prog.stops == []) : Bool) = true := by kernel_rfl
theorem missingScoresF7 : ((Rows.missingScoresRow.knobs == []) : Bool) = true := by kernel_rfl
theorem missingScoresF8 : ((Tryz.prog.stopKnobs == []) : Bool) = true := by kernel_rfl
theorem missingScoresF9 : ((Rows.missingScoresRow.inPlace == Tryz.prog.inPlace 5) : Bool) = true := by kernel_rfl
theorem missingScoresF10 : ((Rows.missingScoresRow.unfollowed == Tryz.prog.unfollowed 5) : Bool) = true := by kernel_rfl
theorem missingScoresF11 : ((Rows.missingScoresRow.recurses == Tryz.prog.recurses 5) : Bool) = true := by kernel_rfl
theorem missingScoresF12 : ((Rows.missingScoresRow.named == Tryz.prog.varsNamed 5) : Bool) = true := by kernel_rfl
theorem missingScoresF13 : ((Rows.missingScoresRow.maps == (Tryz.f5.params.toList ++ Rows.missingScoresSpec.plain.varTypes Tryz.prog).any (Tryz.prog.mapsRec ·)) : Bool) = true := by kernel_rfl
theorem missingScoresF14 : ((Rows.missingScoresRow.ifaces == (Tryz.f5.params.toList ++ Rows.missingScoresSpec.plain.varTypes Tryz.prog).any (Tryz.prog.ifacesRec ·)) : Bool) = true := by kernel_rfl
theorem missingScoresF15 : ((Rows.missingScoresRow.mapsOut == Tryz.prog.mapsAmong Tryz.f5.resultTypes.toList) : Bool) = true := by kernel_rfl
theorem missingScoresF16 : ((Rows.missingScoresRow.loops == (Tryz.f5.params.toList ++ Rows.missingScoresSpec.plain.varTypes Tryz.prog).any (Tryz.prog.loopsFrom ·)) : Bool) = true := by kernel_rfl
theorem missingScoresF17 : ((Rows.missingScoresRow.wideKeys == (Tryz.f5.params.toList ++ Rows.missingScoresSpec.plain.varTypes Tryz.prog ++ Tryz.f5.resultTypes.toList).any (Tryz.prog.wideKeysFrom ·)) : Bool) = true := by kernel_rfl
theorem missingScoresF18 : (Rows.missingScoresSpec.vars.all (Tryz.prog.varReadable ·) : Bool) = true := by kernel_rfl
theorem missingScoresF19 : (Tryz.f5.resultTypes.all (fun t => Tryz.prog.readableRec t && decide (t < Tryz.prog.types.size)) : Bool) = true := by kernel_rfl
theorem missingScoresF20 : ((Rows.missingScoresRow.ifacesOut == Tryz.f5.resultTypes.toList.any (Tryz.prog.ifacesRec ·)) : Bool) = true := by kernel_rfl
theorem missingScoresF21 : ((Rows.missingScoresRow.loopsOut == Tryz.f5.resultTypes.toList.any (Tryz.prog.loopsFrom ·)) : Bool) = true := by kernel_rfl
theorem missingScoresF22 : ((Rows.missingScoresRow.plainKeys == Tryz.prog.plainKeys) : Bool) = true := by kernel_rfl
theorem missingScoresF23 : (Rows.missingScoresRow.shortTexts.isNone : Bool) = true := by kernel_rfl
theorem missingScoresF24 : (Tryz.prog.stopsHeard : Bool) = true := by kernel_rfl
theorem missingScoresF25 : (Tryz.prog.mayEnter : Bool) = true := by kernel_rfl
theorem missingScoresF26 : ((Rows.missingScoresRow.lifted == Tryz.prog.liftsFinal) : Bool) = true := by kernel_rfl
theorem missingScoresF27 : ((Tryz.prog.make == some Rows.missingScoresRow.make) : Bool) = true := by kernel_rfl
theorem missingScoresF28 : ((Rows.missingScoresRow.kinds == (if Rows.missingScoresRow.domain.isEmpty then [] else Tryz.f5.params.toList.map fun t => match Tryz.prog.underlying t with | some (.int k) => some k | _ => none)) : Bool) = true := by kernel_rfl
theorem missingScoresF29 : ((Rows.missingScoresRow.pinned == Rows.missingScoresRow.pinnedBy) : Bool) = true := by kernel_rfl
theorem missingScoresF30 : ((Rows.missingScoresRow.veiled == (Tryz.f5.params.toList ++ Rows.missingScoresSpec.plain.varTypes Tryz.prog ++ Tryz.f5.resultTypes.toList).any (Tryz.prog.veiledRec ·)) : Bool) = true := by kernel_rfl
theorem missingScoresF31 : (Rows.missingScoresRow.veiledFits Tryz.prog Tryz.f5.params.toList (Tryz.f5.params.toList ++ Rows.missingScoresSpec.plain.varTypes Tryz.prog ++ Tryz.f5.resultTypes.toList) : Bool) = true := by kernel_rfl
theorem band {a b : Bool} (ha : a = true) (hb : b = true) : (a && b) = true := by rw [ha, hb]; rfl
theorem missingScoresJoined : joinedFacts Tryz.prog 5 Tryz.f5 Rows.missingScoresSpec Rows.missingScoresRow = true := by
  unfold joinedFacts
  exact (band (band (band (band (band (band (band (band (band (band (band (band (band (band (band (band (band (band (band (band (band (band (band (band (band (band (band (band (band (band (band missingScoresF0 missingScoresF1) missingScoresF2) missingScoresF3) missingScoresF4) missingScoresF5) missingScoresF6) missingScoresF7) missingScoresF8) missingScoresF9) missingScoresF10) missingScoresF11) missingScoresF12) missingScoresF13) missingScoresF14) missingScoresF15) missingScoresF16) missingScoresF17) missingScoresF18) missingScoresF19) missingScoresF20) missingScoresF21) missingScoresF22) missingScoresF23) missingScoresF24) missingScoresF25) missingScoresF26) missingScoresF27) missingScoresF28) missingScoresF29) missingScoresF30) missingScoresF31)
theorem own_knob : ownKnob Tryz.prog.godebug = none := by kernel_rfl
theorem laid_out : laidOutB Tryz.prog = true := missingScoresF1
theorem ub : Tryz.prog.underlying 4 = some .bool := by kernel_rfl
/-- The door's own heap meets the condition of this row's tables. -/
theorem door_scores (os : Os) (args : Array Value) : laidMetH Tryz.prog Rows.missingScoresRow.laid ((World.doorLaid Tryz.prog 400 os).forCall (fun _ _ => 0) ⟨#[], args, []⟩).memory :=
  laidMetH_of_parts3 (fuel := 8) (laidMet_of_run' 8 (by kernel_rfl) (by kernel_rfl)) (by kernel_rfl) (by kernel_rfl)
theorem lifted_scores (os : Os) (started : os.Started) (H : Type) (enc : TypeId × Value → H) :
    ReturnsInHanded {} Tryz.checked os 5 .any (fun w args => (Rows.missingScoresSpec.pre enc Tryz.prog Tryz.f5 [] false w args ∧ laidMetH Tryz.prog Rows.missingScoresRow.laid w) ∧ sizedMet enc Tryz.prog Tryz.f5 (OpenSpec.ofChange Rows.missingScoresSpec) false w args)
      (Rows.missingScoresSpec.post enc Tryz.prog Tryz.f5 false true false false) := by
  refine returnsInHanded_of_change_and (C := Tryz.checked) (X := fun w _ => laidMetH Tryz.prog Rows.missingScoresRow.laid w) (fun _ _ _ hh h => h.of_heap hh) own_knob started (by kernel_rfl) Tryz.func5
    (ChangeSpec.witness_shaped (enc := enc) (C := Tryz.checked) (os := os) (X := fun w _ => laidMetH Tryz.prog Rows.missingScoresRow.laid w) false (World.doorLaid Tryz.prog 400 os) #[.agg #[.slice none 0 0, .slice none 0 0, .slice none 0 0], .slice none 0 0] 8 rfl (World.shaped_of_RefB (by kernel_rfl) (by kernel_rfl)) (by kernel_rfl) (by kernel_rfl) (by kernel_rfl) (door_scores os _)) ?_
  intro W base args ds gs before hval0 hW _ _ hL _
  have hval : ∀ (j : Nat) t v, Tryz.f5.params[j]? = some t → args[j]? = some v → Value.okWide Tryz.prog W .any base t v := hval0
  have hW' := hW
  obtain ⟨p, q, hA0, hV, rfl, hfz, hnd⟩ := hW
  have hA : DataW.TrodAll enc Tryz.prog W 0 (fun _ => true) true Tryz.f5.params.toList args.toList ds p := hA0
  rw [Tryz.params5] at hA hval
  obtain ⟨v0, v1, d0, d1, p0, p1, rfl, rfl, rfl, h0, h1⟩ := trodAll_two hA
  obtain ⟨rfl, rfl⟩ := trodVars_none hV
  obtain ⟨g0, l0⟩ := lift_lg (hval 0 26 v0 rfl rfl) h0
  obtain ⟨g1, A1, c1, rfl, _, l1⟩ := lift_sl lf_fxs (show Tryz.prog.underlying 27 = some (.slice 80) by kernel_rfl) (hval 1 27 v1 rfl rfl) h1
  clear hA0 hval0
  simp only [List.append_nil] at hW'
  have hlt : ∀ x ∈ p0 ++ p1, x.block < W.heap.size := fun x hx => by simpa using hW'.lt x (by simpa using hx)
  refine (law_scores g0 g1 v0 A1 c1 W l0 l1).mono fun e W' ⟨he, hx⟩ => ?_
  subst he
  refine ⟨_, rfl, _, _, _, [], (p0 ++ p1), [], hW', trodAll_mk1 (shut_bool ub _), ?_, rfl, Below.frame hx _, fun h => by cases h⟩
  exact trodAll_mk2 (Below.trod laid_out (by kernel_rfl) (of_decide_eq_true (by kernel_rfl)) h0 hx fun x hx0 => hlt x (List.mem_append_left _ hx0)) (Below.trod laid_out (by kernel_rfl) (of_decide_eq_true (by kernel_rfl)) h1 hx fun x hx0 => hlt x (List.mem_append_right _ hx0))
theorem scores_named : Tryz.prog.funcNamed "siding/sidinglaw34.MissingScores" = some 5 := by kernel_rfl
theorem scores_inst : Tryz.f5.isInstance Tryz.prog Rows.missingScoresRow.origin Rows.missingScoresRow.targs := of_decide_eq_true (by kernel_rfl)
theorem scores_wrap : Tryz.f5.isWrapper Tryz.prog Rows.missingScoresRow.wrapper Rows.missingScoresRow.mainSum := by
  unfold Func.isWrapper; first | (rw [if_pos (by decide +kernel)]; kernel_rfl) | (rw [if_neg (by decide +kernel)]; exact ⟨rfl, rfl⟩)
theorem scores_row : Rows.MissingScoresSaid :=
  OpenClaim.holds_of_wide 5 Tryz.f5 rfl rfl rfl rfl rfl rfl rfl ⟨rfl, rfl, rfl, rfl, rfl⟩ rfl rfl rfl rfl rfl scores_named Tryz.func5 missingScoresJoined scores_inst scores_wrap
    (fun os started H enc _ => lifted_scores os started H enc)
theorem scores_wf : Rows.missingScoresRow.wfByText (OpenSpec.ofChange Rows.missingScoresSpec) = true := by kernel_rfl
theorem scores_main : Tryz.pinned.checked.prog.mainIs = some (true, "ac0055ebc2c0afe53caed14853ad3800c84b29189cf4797dafabdcf55a771049".toList) := by kernel_rfl
theorem scores_looks : false = Tryz.pinned.checked.prog.looks [] := by kernel_rfl
theorem scores_goes : false = Rows.missingScoresRow.goesBy Tryz.pinned.checked.prog := by kernel_rfl
theorem scores_stand : ([26, 27].all fun u => !Tryz.prog.wantsStandIn u) = true := by kernel_rfl
theorem scores_card : Rows.MissingScoresCardSaid :=
  Claim7.holds_tied_plain_at .later [] [.data, .data, .data] true (true, "ac0055ebc2c0afe53caed14853ad3800c84b29189cf4797dafabdcf55a771049") false
    scores_row (fun _ h => by cases h) scores_wf (fun _ h => by cases h) missingScores_row_tie rfl ⟨rfl, rfl⟩ scores_main rfl
    (fun f fn hf hfn => by
      obtain rfl : f = 5 := Option.some.inj (scores_named.symm.trans hf) |>.symm
      obtain rfl : fn = Tryz.f5 := (Option.some.inj (Tryz.func5.symm.trans hfn)).symm
      exact ⟨scores_looks, fun j t ht => by
        rw [Tryz.params5] at ht
        have hm : t ∈ [26, 27] := by simpa using Array.mem_of_getElem? ht
        exact (show Tryz.prog.wantsStandIn t = false by simpa using List.all_eq_true.1 scores_stand t hm)⟩)
    scores_goes
#print axioms scores_card
end Go.Proofs.YtgibdafkidkahaaGreatDoor
