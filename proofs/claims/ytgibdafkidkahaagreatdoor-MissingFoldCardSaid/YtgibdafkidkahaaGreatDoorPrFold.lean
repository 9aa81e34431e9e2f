/- Proved: MissingFold answers true at every input, and each argument reads behind the call as before. Conditions: the three listed tables hold what the program's text lays. -/
import Derived.Test.YtgibdafkidkahaaGreatDoorCards
import Derived.Test.YtgibdafkidkahaaGreatDoorTie
import Derived.Test.YtgibdafkidkahaaGreatDoorLFold
import Derived.Test.YtgibdafkidkahaaGreatDoorLift
import Derived.ProofKit
import Derived.LaidMore
import Derived.OpenShut
import Derived.Carry
import Derived.SevenTiedAt
set_option linter.unusedVariables false
namespace Go.Proofs.YtgibdafkidkahaaGreatDoor
open Go.ChangeShapes Go.WideShapes Go.ChangeAt Go.ChangeMaps Go.WideMaps Go.WideElems Go.RowKit
set_option maxRecDepth 100000

theorem missingFoldF0 : (Rows.missingFoldRow.wf (OpenSpec.ofChange Rows.missingFoldSpec) : Bool) = true := by kernel_rfl
theorem missingFoldF1 : (laidOutB Tryz.prog : Bool) = true := by kernel_rfl
theorem missingFoldF2 : (mapsRowed Tryz.prog : Bool) = true := by kernel_rfl
theorem missingFoldF3 : (Tryz.f6.params.all (Tryz.prog.readableRec ·) : Bool) = true := by kernel_rfl
theorem missingFoldF4 : (namedTie Tryz.prog Rows.missingFoldRow.named Rows.missingFoldSpec.vars : Bool) = true := by kernel_rfl
theorem missingFoldF5 : ((Rows.missingFoldRow.stops == []) : Bool) = true := by kernel_rfl
theorem missingFoldF6 : ((Tryz.prog.stops == []) : Bool) = true := by kernel_rfl
theorem missingFoldF7 : ((Rows.missingFoldRow.knobs == []) : Bool) = true := by kernel_rfl
theorem missingFoldF8 : ((Tryz.prog.stopKnobs == []) : Bool) = true := by kernel_rfl
theorem missingFoldF9 : ((Rows.missingFoldRow.inPlace == Tryz.prog.inPlace 6) : Bool) = true := by kernel_rfl
theorem missingFoldF10 : ((Rows.missingFoldRow.unfollowed == Tryz.prog.unfollowed 6) : Bool) = true := by kernel_rfl
theorem missingFoldF11 : ((Rows.missingFoldRow.recurses == Tryz.prog.recurses 6) : Bool) = true := by kernel_rfl
theorem missingFoldF12 : ((Rows.missingFoldRow.named == Tryz.prog.varsNamed 6) : Bool) = true := by kernel_rfl
theorem missingFoldF13 : ((Rows.missingFoldRow.maps == (Tryz.f6.params.toList ++ Rows.missingFoldSpec.plain.varTypes Tryz.prog).any (Tryz.prog.mapsRec ·)) : Bool) = true := by kernel_rfl
theorem missingFoldF14 : ((Rows.missingFoldRow.ifaces == (Tryz.f6.params.toList ++ Rows.missingFoldSpec.plain.varTypes Tryz.prog).any (Tryz.prog.ifacesRec ·)) : Bool) = true := by kernel_rfl
theorem missingFoldF15 : ((Rows.missingFoldRow.mapsOut == Tryz.prog.mapsAmong Tryz.f6.resultTypes.toList) : Bool) = true := by kernel_rfl
theorem missingFoldF16 : ((Rows.missingFoldRow.loops == (Tryz.f6.params.toList ++ Rows.missingFoldSpec.plain.varTypes Tryz.prog).any (Tryz.prog.loopsFrom ·)) : Bool) = true := by kernel_rfl
theorem missingFoldF17 : ((Rows.missingFoldRow.wideKeys == (Tryz.f6.params.toList ++ Rows.missingFoldSpec.plain.varTypes Tryz.prog ++ Tryz.f6.resultTypes.toList).any (Tryz.prog.wideKeysFrom ·)) : Bool) = true := by kernel_rfl
theorem missingFoldF18 : (Rows.missingFoldSpec.vars.all (Tryz.prog.varReadable ·) : Bool) = true := by kernel_rfl
theorem missingFoldF19 : (Tryz.f6.resultTypes.all (fun t => Tryz.prog.readableRec t && decide (t < Tryz.prog.types.size)) : Bool) = true := by kernel_rfl
theorem missingFoldF20 : ((Rows.missingFoldRow.ifacesOut == Tryz.f6.resultTypes.toList.any (Tryz.prog.ifacesRec ·)) : Bool) = true := by kernel_rfl
theorem missingFoldF21 : ((Rows.missingFoldRow.loopsOut == Tryz.f6.resultTypes.toList.any (Tryz.prog.loopsFrom ·)) : Bool) = true := by kernel_rfl
theorem missingFoldF22 : ((Rows.missingFoldRow.plainKeys == Tryz.prog.plainKeys) : Bool) = true := by kernel_rfl
theorem missingFoldF23 : (Rows.missingFoldRow.shortTexts.isNone : Bool) = true := by kernel_rfl
theorem missingFoldF24 : (Tryz.prog.stopsHeard : Bool) = true := by kernel_rfl
theorem missingFoldF25 : (Tryz.prog.mayEnter : Bool) = true := by kernel_rfl
theorem missingFoldF26 : ((Rows.missingFoldRow.lifted == Tryz.prog.liftsFinal) : Bool) = true := by kernel_rfl
theorem missingFoldF27 : ((Tryz.prog.make == some Rows.missingFoldRow.make) : Bool) = true := by kernel_rfl
theorem missingFoldF28 : ((Rows.missingFoldRow.kinds == (if Rows.missingFoldRow.domain.isEmpty then [] else Tryz.f6.params.toList.map fun t => match Tryz.prog.underlying t with | some (.int k) => some k | _ => none)) : Bool) = true := by kernel_rfl
theorem missingFoldF29 : ((Rows.missingFoldRow.pinned == Rows.missingFoldRow.pinnedBy) : Bool) = true := by kernel_rfl
theorem missingFoldF30 : ((Rows.missingFoldRow.veiled == (Tryz.f6.params.toList ++ Rows.missingFoldSpec.plain.varTypes Tryz.prog ++ Tryz.f6.resultTypes.toList).any (Tryz.prog.veiledRec ·)) : Bool) = true := by kernel_rfl
theorem missingFoldF31 : (Rows.missingFoldRow.veiledFits Tryz.prog Tryz.f6.params.toList (Tryz.f6.params.toList ++ Rows.missingFoldSpec.plain.varTypes Tryz.prog ++ Tryz.f6.resultTypes.toList) : Bool) = true := by kernel_rfl
theorem band {a b : Bool} (ha : a = true) (hb : b = true) : (a && b) = true := by rw [ha, hb]; rfl
theorem missingFoldJoined : joinedFacts Tryz.prog 6 Tryz.f6 Rows.missingFoldSpec Rows.missingFoldRow = true := by
  unfold joinedFacts
  exact (band (band (band (band (band (band (band (band (band (band (band (band (band (band (band (band (band (band (band (band (band (band (band (band (band (band (band (band (band (band (band missingFoldF0 missingFoldF1) missingFoldF2) missingFoldF3) missingFoldF4) missingFoldF5) missingFoldF6) missingFoldF7) missingFoldF8) missingFoldF9) missingFoldF10) missingFoldF11) missingFoldF12) missingFoldF13) missingFoldF14) missingFoldF15) missingFoldF16) missingFoldF17) missingFoldF18) missingFoldF19) missingFoldF20) missingFoldF21) missingFoldF22) missingFoldF23) missingFoldF24) missingFoldF25) missingFoldF26) missingFoldF27) missingFoldF28) missingFoldF29) missingFoldF30) missingFoldF31)
theorem own_knob : ownKnob Tryz.prog.godebug = none := by kernel_rfl
theorem laid_out : laidOutB Tryz.prog = true := missingFoldF1
theorem ub : Tryz.prog.underlying 4 = some .bool := by kernel_rfl
/-- The door's own heap meets the condition of this row's tables. -/
theorem door_fold (os : Os) (args : Array Value) : laidMetH Tryz.prog Rows.missingFoldRow.laid ((World.doorLaid Tryz.prog 400 os).forCall (fun _ _ => 0) ⟨#[], args, []⟩).memory :=
  laidMetH_of_parts3 (fuel := 8) (laidMet_of_run' 8 (by kernel_rfl) (by kernel_rfl)) (by kernel_rfl) (by kernel_rfl)
theorem lifted_fold (os : Os) (started : os.Started) (H : Type) (enc : TypeId × Value → H) :
    ReturnsInHanded {} Tryz.checked os 6 .any (fun w args => (Rows.missingFoldSpec.pre enc Tryz.prog Tryz.f6 [] false w args ∧ laidMetH Tryz.prog Rows.missingFoldRow.laid w) ∧ sizedMet enc Tryz.prog Tryz.f6 (OpenSpec.ofChange Rows.missingFoldSpec) false w args)
      (Rows.missingFoldSpec.post enc Tryz.prog Tryz.f6 false true false false) := by
  refine returnsInHanded_of_change_and (C := Tryz.checked) (X := fun w _ => laidMetH Tryz.prog Rows.missingFoldRow.laid w) (fun _ _ _ hh h => h.of_heap hh) own_knob started (by kernel_rfl) Tryz.func6
    (ChangeSpec.witness_shaped (enc := enc) (C := Tryz.checked) (os := os) (X := fun w _ => laidMetH Tryz.prog Rows.missingFoldRow.laid w) false (World.doorLaid Tryz.prog 400 os) #[.agg #[.slice none 0 0, .slice none 0 0, .slice none 0 0], .slice none 0 0, .int .i64 0, .int .i64 0] 8 rfl (World.shaped_of_RefB (by kernel_rfl) (by kernel_rfl)) (by kernel_rfl) (by kernel_rfl) (by kernel_rfl) (door_fold os _)) ?_
  intro W base args ds gs before hval0 hW _ _ hL _
  have hval : ∀ (j : Nat) t v, Tryz.f6.params[j]? = some t → args[j]? = some v → Value.okWide Tryz.prog W .any base t v := hval0
  have hW' := hW
  obtain ⟨p, q, hA0, hV, rfl, hfz, hnd⟩ := hW
  have hA : DataW.TrodAll enc Tryz.prog W 0 (fun _ => true) true Tryz.f6.params.toList args.toList ds p := hA0
  rw [Tryz.params6] at hA hval
  obtain ⟨v0, v1, v2, v3, d0, d1, d2, d3, p0, p1, p2, p3, rfl, rfl, rfl, h0, h1, h2, h3⟩ := trodAll_four hA
  obtain ⟨rfl, rfl⟩ := trodVars_none hV
  obtain ⟨n3, rfl, rfl, rfl, k3⟩ := open_int uInt (hval 3 3 v3 rfl rfl) h3
  obtain ⟨n2, rfl, rfl, rfl, k2⟩ := open_int uInt (hval 2 3 v2 rfl rfl) h2
  obtain ⟨g0, l0⟩ := lift_lg (hval 0 26 v0 rfl rfl) h0
  obtain ⟨g1, A1, c1, rfl, _, l1⟩ := lift_sl lf_fxs (show Tryz.prog.underlying 27 = some (.slice 80) by kernel_rfl) (hval 1 27 v1 rfl rfl) h1
  clear hA0 hval0
  simp only [List.append_nil] at hW'
  have hlt : ∀ x ∈ p0 ++ p1, x.block < W.heap.size := fun x hx => by simpa using hW'.lt x (by simpa using hx)
  refine (law_fold g0 g1 n2 n3 v0 A1 c1 W l0 l1).mono fun e W' ⟨he, hx⟩ => ?_
  subst he
  refine ⟨_, rfl, _, _, _, [], (p0 ++ (p1 ++ ([] ++ []))), [], hW', trodAll_mk1 (shut_bool ub _), ?_, rfl, Below.frame hx _, fun h => by cases h⟩
  exact trodAll_mk4 (Below.trod laid_out (by kernel_rfl) (of_decide_eq_true (by kernel_rfl)) h0 hx fun x hx0 => hlt x (List.mem_append_left _ hx0)) (Below.trod laid_out (by kernel_rfl) (of_decide_eq_true (by kernel_rfl)) h1 hx fun x hx0 => hlt x (List.mem_append_right _ hx0)) (shut_int uInt k2) (shut_int uInt k3)
theorem fold_named : Tryz.prog.funcNamed "siding/sidinglaw34.MissingFold" = some 6 := by kernel_rfl
theorem fold_inst : Tryz.f6.isInstance Tryz.prog Rows.missingFoldRow.origin Rows.missingFoldRow.targs := of_decide_eq_true (by kernel_rfl)
theorem fold_wrap : Tryz.f6.isWrapper Tryz.prog Rows.missingFoldRow.wrapper Rows.missingFoldRow.mainSum := by
  unfold Func.isWrapper; first | (rw [if_pos (by decide +kernel)]; kernel_rfl) | (rw [if_neg (by decide +kernel)]; exact ⟨rfl, rfl⟩)
theorem fold_row : Rows.MissingFoldSaid :=
  OpenClaim.holds_of_wide 6 Tryz.f6 rfl rfl rfl rfl rfl rfl rfl ⟨rfl, rfl, rfl, rfl, rfl⟩ rfl rfl rfl rfl rfl fold_named Tryz.func6 missingFoldJoined fold_inst fold_wrap
    (fun os started H enc _ => lifted_fold os started H enc)
theorem fold_wf : Rows.missingFoldRow.wfByText (OpenSpec.ofChange Rows.missingFoldSpec) = true := by kernel_rfl
theorem fold_main : Tryz.pinned.checked.prog.mainIs = some (true, "ac0055ebc2c0afe53caed14853ad3800c84b29189cf4797dafabdcf55a771049".toList) := by kernel_rfl
theorem fold_looks : false = Tryz.pinned.checked.prog.looks [] := by kernel_rfl
theorem fold_goes : false = Rows.missingFoldRow.goesBy Tryz.pinned.checked.prog := by kernel_rfl
theorem fold_stand : ([26, 27, 3, 3].all fun u => !Tryz.prog.wantsStandIn u) = true := by kernel_rfl
theorem fold_card : Rows.MissingFoldCardSaid :=
  Claim7.holds_tied_plain_at .later [] [.data, .data, .data] true (true, "ac0055ebc2c0afe53caed14853ad3800c84b29189cf4797dafabdcf55a771049") false
    fold_row (fun _ h => by cases h) fold_wf (fun _ h => by cases h) missingFold_row_tie rfl ⟨rfl, rfl⟩ fold_main rfl
    (fun f fn hf hfn => by
      obtain rfl : f = 6 := Option.some.inj (fold_named.symm.trans hf) |>.symm
      obtain rfl : fn = Tryz.f6 := (Option.some.inj (Tryz.func6.symm.trans hfn)).symm
      exact ⟨fold_looks, fun j t ht => by
        rw [Tryz.params6] at ht
        have hm : t ∈ [26, 27, 3, 3] := by simpa using Array.mem_of_getElem? ht
        exact (show Tryz.prog.wantsStandIn t = false by simpa using List.all_eq_true.1 fold_stand t hm)⟩)
    fold_goes
#print axioms fold_card
end Go.Proofs.YtgibdafkidkahaaGreatDoor
