/- Proved: MissingTells answers true at every input, and each argument reads behind the call as before. Conditions: the three listed tables hold what the program's text lays. -/
import Derived.Test.YtgibdafkidkahaaGreatDoorCards
import Derived.Test.YtgibdafkidkahaaGreatDoorTie
import Derived.Test.YtgibdafkidkahaaGreatDoorTells
import Derived.Test.YtgibdafkidkahaaGreatDoorLift
import Derived.ProofKit
import Derived.LaidMore
import Derived.OpenShut
import Derived.Carry
import Derived.SevenTiedAt
set_option linter.unusedVariables false
namespace Go.Proofs.YtgibdafkidkahaaGreatDoor
open Go.ChangeShapes Go.WideShapes Go.ChangeAt Go.ChangeMaps Go.WideMaps Go.WideElems Go.RowKit
set_option maxRecDepth 100000

theorem missingTellsF0 : (Rows.missingTellsRow.wf (OpenSpec.ofChange Rows.missingTellsSpec) : Bool) = true := by kernel_rfl
theorem missingTellsF1 : (laidOutB Tryz.prog : Bool) = true := by kernel_rfl
theorem missingTellsF2 : (mapsRowed Tryz.prog : Bool) = true := by kernel_rfl
theorem missingTellsF3 : (Tryz.f3.params.all (Tryz.prog.readableRec ·) : Bool) = true := by kernel_rfl
theorem missingTellsF4 : (namedTie Tryz.prog Rows.missingTellsRow.named Rows.missingTellsSpec.vars : Bool) = true := by kernel_rfl
theorem missingTellsF5 : ((Rows.missingTellsRow.stops == []) : Bool) = true := by kernel_rfl
theorem missingTellsF6 : ((Tryz.prog.stops == []) : Bool) = true := by kernel_rfl
theorem missingTellsF7 : ((Rows.missingTellsRow.knobs == []) : Bool) = true := by kernel_rfl
theorem missingTellsF8 : ((Tryz.prog.stopKnobs == []) : Bool) = true := by kernel_rfl
theorem missingTellsF9 : ((Rows.missingTellsRow.inPlace == Tryz.prog.inPlace 3) : Bool) = true := by kernel_rfl
theorem missingTellsF10 : ((Rows.missingTellsRow.unfollowed == Tryz.prog.unfollowed 3) : Bool) = true := by kernel_rfl
theorem missingTellsF11 : ((Rows.missingTellsRow.recurses == Tryz.prog.recurses 3) : Bool) = true := by kernel_rfl
theorem missingTellsF12 : ((Rows.missingTellsRow.named == Tryz.prog.varsNamed 3) : Bool) = true := by kernel_rfl
theorem missingTellsF13 : ((Rows.missingTellsRow.maps == (Tryz.f3.params.toList ++ Rows.missingTellsSpec.plain.varTypes Tryz.prog).any (Tryz.prog.mapsRec ·)) : Bool) = true := by kernel_rfl
theorem missingTellsF14 : ((Rows.missingTellsRow.ifaces == (Tryz.f3.params.toList ++ Rows.missingTellsSpec.plain.varTypes Tryz.prog).any (Tryz.prog.ifacesRec ·)) : Bool) = true := by kernel_rfl
theorem missingTellsF15 : ((Rows.missingTellsRow.mapsOut == Tryz.prog.mapsAmong Tryz.f3.resultTypes.toList) : Bool) = true := by kernel_rfl
theorem missingTellsF16 : ((Rows.missingTellsRow.loops == (Tryz.f3.params.toList ++ Rows.missingTellsSpec.plain.varTypes Tryz.prog).any (Tryz.prog.loopsFrom ·)) : Bool) = true := by kernel_rfl
theorem missingTellsF17 : ((Rows.missingTellsRow.wideKeys == (Tryz.f3.params.toList ++ Rows.missingTellsSpec.plain.varTypes Tryz.prog ++ Tryz.f3.resultTypes.toList).any (Tryz.prog.wideKeysFrom ·)) : Bool) = true := by kernel_rfl
theorem missingTellsF18 : (Rows.missingTellsSpec.vars.all (Tryz.prog.varReadable ·) : Bool) = true := by kernel_rfl
theorem missingTellsF19 : (Tryz.f3.resultTypes.all (fun t => Tryz.prog.readableRec t && decide (t < Tryz.prog.types.size)) : Bool) = true := by kernel_rfl
theorem missingTellsF20 : ((Rows.missingTellsRow.ifacesOut == Tryz.f3.resultTypes.toList.any (Tryz.prog.ifacesRec ·)) : Bool) = true := by kernel_rfl
theorem missingTellsF21 : ((Rows.missingTellsRow.loopsOut == Tryz.f3.resultTypes.toList.any (Tryz.prog.loopsFrom ·)) : Bool) = true := by kernel_rfl
theorem missingTellsF22 : ((Rows.missingTellsRow.plainKeys == Tryz.prog.plainKeys) : Bool) = true := by kernel_rfl
theorem missingTellsF23 : (Rows.missingTellsRow.shortTexts.isNone : Bool) = true := by kernel_rfl
theorem missingTellsF24 : (Tryz.prog.stopsHeard : Bool) = true := by kernel_rfl
theorem missingTellsF25 : (Tryz.prog.mayEnter : Bool) = true := by kernel_rfl
theorem missingTellsF26 : ((Rows.missingTellsRow.lifted == Tryz.prog.liftsFinal) : Bool) = true := by kernel_rfl
theorem missingTellsF27 : ((Tryz.prog.make == some Rows.missingTellsRow.make) : Bool) = true := by kernel_rfl
theorem missingTellsF28 : ((Rows.missingTellsRow.kinds == (if Rows.missingTellsRow.domain.isEmpty then [] else Tryz.f3.params.toList.map fun t => match Tryz.prog.underlying t with | some (.int k) => some k | _ => none)) : Bool) = true := by kernel_rfl
theorem missingTellsF29 : ((Rows.missingTellsRow.pinned == Rows.missingTellsRow.pinnedBy) : Bool) = true := by kernel_rfl
theorem missingTellsF30 : ((Rows.missingTellsRow.veiled == (Tryz.f3.params.toList ++ Rows.missingTellsSpec.plain.varTypes Tryz.prog ++ Tryz.f3.resultTypes.toList).any (Tryz.prog.veiledRec ·)) : Bool) = true := by kernel_rfl
theorem missingTellsF31 : (Rows.missingTellsRow.veiledFits Tryz.prog Tryz.f3.params.toList (Tryz.f3.params.toList ++ Rows.missingTellsSpec.plain.varTypes Tryz.prog ++ Tryz.f3.resultTypes.toList) : Bool) = true := by kernel_rfl
theorem band {a b : Bool} (ha : a = true) (hb : b = true) : (a && b) = true := by rw [ha, hb]; rfl
theorem missingTellsJoined : joinedFacts Tryz.prog 3 Tryz.f3 Rows.missingTellsSpec Rows.missingTellsRow = true := by
  unfold joinedFacts
  exact (band (band (band (band (band (band (band (band (band (band (band (band (band (band (band (band (band (band (band (band (band (band (band (band (band (band (band (band (band (band (band missingTellsF0 missingTellsF1) missingTellsF2) missingTellsF3) missingTellsF4) missingTellsF5) missingTellsF6) missingTellsF7) missingTellsF8) missingTellsF9) missingTellsF10) missingTellsF11) missingTellsF12) missingTellsF13) missingTellsF14) missingTellsF15) missingTellsF16) missingTellsF17) missingTellsF18) missingTellsF19) missingTellsF20) missingTellsF21) missingTellsF22) missingTellsF23) missingTellsF24) missingTellsF25) missingTellsF26) missingTellsF27) missingTellsF28) missingTellsF29) missingTellsF30) missingTellsF31)
theorem own_knob : ownKnob Tryz.prog.godebug = none := by kernel_rfl
theorem laid_out : laidOutB Tryz.prog = true := missingTellsF1
theorem ub : Tryz.prog.underlying 4 = some .bool := by kernel_rfl
/-- The door's own heap meets the condition of this row's tables. -/
theorem door_tells (os : Os) (args : Array Value) : laidMetH Tryz.prog Rows.missingTellsRow.laid ((World.doorLaid Tryz.prog 400 os).forCall (fun _ _ => 0) ⟨#[], args, []⟩).memory :=
  laidMetH_of_parts3 (fuel := 8) (laidMet_of_run' 8 (by kernel_rfl) (by kernel_rfl)) (by kernel_rfl) (by kernel_rfl)
theorem lifted_tells (os : Os) (started : os.Started) (H : Type) (enc : TypeId × Value → H) :
    ReturnsInHanded {} Tryz.checked os 3 .any (fun w args => (Rows.missingTellsSpec.pre enc Tryz.prog Tryz.f3 [] false w args ∧ laidMetH Tryz.prog Rows.missingTellsRow.laid w) ∧ sizedMet enc Tryz.prog Tryz.f3 (OpenSpec.ofChange Rows.missingTellsSpec) false w args)
      (Rows.missingTellsSpec.post enc Tryz.prog Tryz.f3 false true false false) := by
  refine returnsInHanded_of_change_and (C := Tryz.checked) (X := fun w _ => laidMetH Tryz.prog Rows.missingTellsRow.laid w) (fun _ _ _ hh h => h.of_heap hh) own_knob started (by kernel_rfl) Tryz.func3
    (ChangeSpec.witness_shaped (enc := enc) (C := Tryz.checked) (os := os) (X := fun w _ => laidMetH Tryz.prog Rows.missingTellsRow.laid w) false (World.doorLaid Tryz.prog 400 os) #[.agg #[.slice none 0 0, .slice none 0 0, .slice none 0 0], .slice none 0 0, .string ⟨#[]⟩, .int .i64 0] 8 rfl (World.shaped_of_RefB (by kernel_rfl) (by kernel_rfl)) (by kernel_rfl) (by kernel_rfl) (by kernel_rfl) (door_tells os _)) ?_
  intro W base args ds gs before hval0 hW _ _ hL _
  have hval : ∀ (j : Nat) t v, Tryz.f3.params[j]? = some t → args[j]? = some v → Value.okWide Tryz.prog W .any base t v := hval0
  have hW' := hW
  obtain ⟨p, q, hA0, hV, rfl, hfz, hnd⟩ := hW
  have hA : DataW.TrodAll enc Tryz.prog W 0 (fun _ => true) true Tryz.f3.params.toList args.toList ds p := hA0
  rw [Tryz.params3] at hA hval
  obtain ⟨v0, v1, v2, v3, d0, d1, d2, d3, p0, p1, p2, p3, rfl, rfl, rfl, h0, h1, h2, h3⟩ := trodAll_four hA
  obtain ⟨rfl, rfl⟩ := trodVars_none hV
  obtain ⟨n3, rfl, rfl, rfl, k3⟩ := open_int uInt (hval 3 3 v3 rfl rfl) h3
  obtain ⟨n2, rfl, rfl, rfl, k2⟩ := open_string uStr (hval 2 9 v2 rfl rfl) h2
  obtain ⟨g0, l0⟩ := lift_lg (hval 0 26 v0 rfl rfl) h0
  obtain ⟨g1, A1, c1, rfl, _, l1⟩ := lift_sl lf_fxs (show Tryz.prog.underlying 27 = some (.slice 80) by kernel_rfl) (hval 1 27 v1 rfl rfl) h1
  clear hA0 hval0
  simp only [List.append_nil] at hW'
  have hlt : ∀ x ∈ p0 ++ p1, x.block < W.heap.size := fun x hx => by simpa using hW'.lt x (by simpa using hx)
  refine (law_tells g0 g1 n2 n3 v0 A1 c1 W l0 l1).mono fun e W' ⟨he, hx⟩ => ?_
  subst he
  refine ⟨_, rfl, _, _, _, [], (p0 ++ (p1 ++ ([] ++ ([] ++ [])))), [], hW', trodAll_mk1 (shut_bool ub _), ?_, rfl, Below.frame hx _, fun h => by cases h⟩
  exact trodAll_mk4 (Below.trod laid_out (by kernel_rfl) (of_decide_eq_true (by kernel_rfl)) h0 hx fun x hx0 => hlt x (List.mem_append_left _ hx0)) (Below.trod laid_out (by kernel_rfl) (of_decide_eq_true (by kernel_rfl)) h1 hx fun x hx0 => hlt x (List.mem_append_right _ hx0)) (shut_string uStr k2) (shut_int uInt k3)
theorem tells_named : Tryz.prog.funcNamed "siding/sidinglaw34.MissingTells" = some 3 := by kernel_rfl
theorem tells_inst : Tryz.f3.isInstance Tryz.prog Rows.missingTellsRow.origin Rows.missingTellsRow.targs := of_decide_eq_true (by kernel_rfl)
theorem tells_wrap : Tryz.f3.isWrapper Tryz.prog Rows.missingTellsRow.wrapper Rows.missingTellsRow.mainSum := by
  unfold Func.isWrapper; first | (rw [if_pos (by decide +kernel)]; kernel_rfl) | (rw [if_neg (by decide +kernel)]; exact ⟨rfl, rfl⟩)
theorem tells_row : Rows.MissingTellsSaid :=
  OpenClaim.holds_of_wide 3 Tryz.f3 rfl rfl rfl rfl rfl rfl rfl ⟨rfl, rfl, rfl, rfl, rfl⟩ rfl rfl rfl rfl rfl tells_named Tryz.func3 missingTellsJoined tells_inst tells_wrap
    (fun os started H enc _ => lifted_tells os started H enc)
theorem tells_wf : Rows.missingTellsRow.wfByText (OpenSpec.ofChange Rows.missingTellsSpec) = true := by kernel_rfl
theorem tells_main : Tryz.pinned.checked.prog.mainIs = some (true, "ac0055ebc2c0afe53caed14853ad3800c84b29189cf4797dafabdcf55a771049".toList) := by kernel_rfl
theorem tells_looks : false = Tryz.pinned.checked.prog.looks [] := by kernel_rfl
theorem tells_goes : false = Rows.missingTellsRow.goesBy Tryz.pinned.checked.prog := by kernel_rfl
theorem tells_stand : ([26, 27, 9, 3].all fun u => !Tryz.prog.wantsStandIn u) = true := by kernel_rfl
theorem tells_card : Rows.MissingTellsCardSaid :=
  Claim7.holds_tied_plain_at .later [] [.data, .data, .data] true (true, "ac0055ebc2c0afe53caed14853ad3800c84b29189cf4797dafabdcf55a771049") false
    tells_row (fun _ h => by cases h) tells_wf (fun _ h => by cases h) missingTells_row_tie rfl ⟨rfl, rfl⟩ tells_main rfl
    (fun f fn hf hfn => by
      obtain rfl : f = 3 := Option.some.inj (tells_named.symm.trans hf) |>.symm
      obtain rfl : fn = Tryz.f3 := (Option.some.inj (Tryz.func3.symm.trans hfn)).symm
      exact ⟨tells_looks, fun j t ht => by
        rw [Tryz.params3] at ht
        have hm : t ∈ [26, 27, 9, 3] := by simpa using Array.mem_of_getElem? ht
        exact (show Tryz.prog.wantsStandIn t = false by simpa using List.all_eq_true.1 tells_stand t hm)⟩)
    tells_goes
#print axioms tells_card
end Go.Proofs.YtgibdafkidkahaaGreatDoor
