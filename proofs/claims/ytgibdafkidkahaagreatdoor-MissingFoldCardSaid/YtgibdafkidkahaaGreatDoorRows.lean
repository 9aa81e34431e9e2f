/-
  NARROWER THAN 'FOR EVERY INPUT', by the rows' own cells (each row's printed sentence says how): MissingTells: laid · ReportSums: laid · MissingScores: laid · MissingFold: laid · MissingCloses: laid · ReportOne: laid · NotesTurn: laid · NotesLines: laid · NotesOnce: laid · NotesTells: laid · NotesSince: laid · ReportAgrees: laid.
  DERIVED. THE GIVEN ROWS OF THIS SEAT. 12 by the template 'for every input the law returns true; each argument reads behind the call as it read before'; 0 by the template 'total and deterministic' (their statements: YtgibdafkidkahaaGreatDoorTotals.lean).
  GIVEN WITH THE SEED: the statements are not yours to turn. If you find one false, say at which input.
  Laid BY PROGRAM, IN A SANDBOX (cutbox-rows.mjs): the forced cells as the released guide's own fill.sh prints them over the translation 0faea7bc5dabb4c7… (all of the seat's roots in one cut). By AI agents, Wed Nov 11 2026. No macro, syntax, notation, axiom, sorry.
-/
import Derived.Test.YtgibdafkidkahaaGreatDoorChecked
import GoSem.Claim
import GoSem.ClaimJoined
import GoSem.ClaimMapViews
import Derived.JoinedTies
import Derived.KernelRfl
namespace Go.Proofs.YtgibdafkidkahaaGreatDoor
/- THE CELL 'sum', in the pinned program and in every row, IS THE sha256 OF THE DUMP (.gsa) THAT YtgibdafkidkahaaGreatDoorProg.lean LOADS. Nothing in Lean hashes anything: it is a label: what it is worth is what the hold of that sum in a sandbox is worth. -/
noncomputable def Tryz.pinned : Pinned := { name := "ytgibdafkidkahaagreatdoor", sum := "0faea7bc5dabb4c7380535a7b06bd1f32be87faa64facba4595037fe0ba8ad17", checked := Tryz.checked }
namespace Rows
def none {H : Type} : Left H := { results := [], args := [] }

/- WHAT THE LISTED PACKAGE-LEVEL VARIABLES READ AS WHEN THE CALL BEGINS. Each datum BY PROGRAM (the guide's laid-datum.mjs) off the statement by which the dump's own 'gosem.cut.vars' lays the variable. In a bare row this is a premise. The card (YtgibdafkidkahaaGreatDoorCards.lean) ties it to the program's text. -/
def laid_math_bits_deBruijn32tab {H : Type} : DataW H := .agg [.lit (.int .u8 0), .lit (.int .u8 1), .lit (.int .u8 28), .lit (.int .u8 2), .lit (.int .u8 29), .lit (.int .u8 14), .lit (.int .u8 24), .lit (.int .u8 3), .lit (.int .u8 30), .lit (.int .u8 22), .lit (.int .u8 20), .lit (.int .u8 15), .lit (.int .u8 25), .lit (.int .u8 17), .lit (.int .u8 4), .lit (.int .u8 8), .lit (.int .u8 31), .lit (.int .u8 27), .lit (.int .u8 13), .lit (.int .u8 23), .lit (.int .u8 21), .lit (.int .u8 19), .lit (.int .u8 16), .lit (.int .u8 7), .lit (.int .u8 26), .lit (.int .u8 12), .lit (.int .u8 18), .lit (.int .u8 6), .lit (.int .u8 11), .lit (.int .u8 5), .lit (.int .u8 10), .lit (.int .u8 9)]
def laid_math_bits_deBruijn64tab {H : Type} : DataW H := .agg [.lit (.int .u8 0), .lit (.int .u8 1), .lit (.int .u8 56), .lit (.int .u8 2), .lit (.int .u8 57), .lit (.int .u8 49), .lit (.int .u8 28), .lit (.int .u8 3), .lit (.int .u8 61), .lit (.int .u8 58), .lit (.int .u8 42), .lit (.int .u8 50), .lit (.int .u8 38), .lit (.int .u8 29), .lit (.int .u8 17), .lit (.int .u8 4), .lit (.int .u8 62), .lit (.int .u8 47), .lit (.int .u8 59), .lit (.int .u8 36), .lit (.int .u8 45), .lit (.int .u8 43), .lit (.int .u8 51), .lit (.int .u8 22), .lit (.int .u8 53), .lit (.int .u8 39), .lit (.int .u8 33), .lit (.int .u8 30), .lit (.int .u8 24), .lit (.int .u8 18), .lit (.int .u8 12), .lit (.int .u8 5), .lit (.int .u8 63), .lit (.int .u8 55), .lit (.int .u8 48), .lit (.int .u8 27), .lit (.int .u8 60), .lit (.int .u8 41), .lit (.int .u8 37), .lit (.int .u8 16), .lit (.int .u8 46), .lit (.int .u8 35), .lit (.int .u8 44), .lit (.int .u8 21), .lit (.int .u8 52), .lit (.int .u8 32), .lit (.int .u8 23), .lit (.int .u8 11), .lit (.int .u8 54), .lit (.int .u8 26), .lit (.int .u8 40), .lit (.int .u8 15), .lit (.int .u8 34), .lit (.int .u8 20), .lit (.int .u8 31), .lit (.int .u8 10), .lit (.int .u8 25), .lit (.int .u8 14), .lit (.int .u8 19), .lit (.int .u8 9), .lit (.int .u8 13), .lit (.int .u8 8), .lit (.int .u8 7), .lit (.int .u8 6)]
def laid_internal_strconv_uint64pow10 {H : Type} : DataW H := .agg [.lit (.int .u64 1), .lit (.int .u64 10), .lit (.int .u64 100), .lit (.int .u64 1000), .lit (.int .u64 10000), .lit (.int .u64 100000), .lit (.int .u64 1000000), .lit (.int .u64 10000000), .lit (.int .u64 100000000), .lit (.int .u64 1000000000), .lit (.int .u64 10000000000), .lit (.int .u64 100000000000), .lit (.int .u64 1000000000000), .lit (.int .u64 10000000000000), .lit (.int .u64 100000000000000), .lit (.int .u64 1000000000000000), .lit (.int .u64 10000000000000000), .lit (.int .u64 100000000000000000), .lit (.int .u64 1000000000000000000), .lit (.int .u64 10000000000000000000)]

/-- 'sidinglaw34.MissingTells': WHATEVER THE INPUT: true; the input reads as it did. -/
def missingTellsSpec : ChangeSpec := { name := "missingTells", fn := fun _ => fun
  | [d1, d2, d3, d4] => { results := [.lit (.bool true)], args := [d1, d2, d3, d4] }
  | _ => none }
def missingTellsRow : OpenClaim := { program := "ytgibdafkidkahaagreatdoor", sum := "0faea7bc5dabb4c7380535a7b06bd1f32be87faa64facba4595037fe0ba8ad17", func := "siding/sidinglaw34.MissingTells", spec := "missingTells", inPlace := ["internal/abi.NoEscape"], unfollowed := true, recurses := true, named := ["internal/strconv.uint64pow10", "math/bits.deBruijn32tab", "math/bits.deBruijn64tab"], plainKeys := false, apart := false, laid := [("math/bits.deBruijn32tab", laid_math_bits_deBruijn32tab), ("math/bits.deBruijn64tab", laid_math_bits_deBruijn64tab), ("internal/strconv.uint64pow10", laid_internal_strconv_uint64pow10)] }
def MissingTellsSaid : Prop := missingTellsRow.holds Tryz.pinned (OpenSpec.ofChange missingTellsSpec)

/-- ITS FALSE NEIGHBOUR: 'it returns false'. Refute it at one input. -/
def missingTellsWrong : ChangeSpec := { name := "missingTells", fn := fun _ => fun
  | [d1, d2, d3, d4] => { results := [.lit (.bool false)], args := [d1, d2, d3, d4] }
  | _ => none }
def MissingTellsWrongFalsely : Prop := missingTellsRow.holds Tryz.pinned (OpenSpec.ofChange missingTellsWrong)

/-- 'sidinglaw41.ReportSums': WHATEVER THE INPUT: true; the input reads as it did. -/
def reportSumsSpec : ChangeSpec := { name := "reportSums", fn := fun _ => fun
  | [d1, d2] => { results := [.lit (.bool true)], args := [d1, d2] }
  | _ => none }
def reportSumsRow : OpenClaim := { program := "ytgibdafkidkahaagreatdoor", sum := "0faea7bc5dabb4c7380535a7b06bd1f32be87faa64facba4595037fe0ba8ad17", func := "siding/sidinglaw41.ReportSums", spec := "reportSums", inPlace := ["internal/abi.NoEscape", "internal/bytealg.MakeNoZero"], unfollowed := true, recurses := true, named := ["internal/strconv.uint64pow10", "math/bits.deBruijn32tab", "math/bits.deBruijn64tab"], plainKeys := false, apart := false, laid := [("math/bits.deBruijn32tab", laid_math_bits_deBruijn32tab), ("math/bits.deBruijn64tab", laid_math_bits_deBruijn64tab), ("internal/strconv.uint64pow10", laid_internal_strconv_uint64pow10)] }
def ReportSumsSaid : Prop := reportSumsRow.holds Tryz.pinned (OpenSpec.ofChange reportSumsSpec)

/-- ITS FALSE NEIGHBOUR: 'it returns false'. Refute it at one input. -/
def reportSumsWrong : ChangeSpec := { name := "reportSums", fn := fun _ => fun
  | [d1, d2] => { results := [.lit (.bool false)], args := [d1, d2] }
  | _ => none }
def ReportSumsWrongFalsely : Prop := reportSumsRow.holds Tryz.pinned (OpenSpec.ofChange reportSumsWrong)

/-- 'sidinglaw34.MissingScores': WHATEVER THE INPUT: true; the input reads as it did. -/
def missingScoresSpec : ChangeSpec := { name := "missingScores", fn := fun _ => fun
  | [d1, d2] => { results := [.lit (.bool true)], args := [d1, d2] }
  | _ => none }
def missingScoresRow : OpenClaim := { program := "ytgibdafkidkahaagreatdoor", sum := "0faea7bc5dabb4c7380535a7b06bd1f32be87faa64facba4595037fe0ba8ad17", func := "siding/sidinglaw34.MissingScores", spec := "missingScores", inPlace := ["internal/abi.NoEscape"], unfollowed := true, recurses := true, named := ["internal/strconv.uint64pow10", "math/bits.deBruijn32tab", "math/bits.deBruijn64tab"], plainKeys := false, apart := false, laid := [("math/bits.deBruijn32tab", laid_math_bits_deBruijn32tab), ("math/bits.deBruijn64tab", laid_math_bits_deBruijn64tab), ("internal/strconv.uint64pow10", laid_internal_strconv_uint64pow10)] }
def MissingScoresSaid : Prop := missingScoresRow.holds Tryz.pinned (OpenSpec.ofChange missingScoresSpec)

/-- ITS FALSE NEIGHBOUR: 'it returns false'. Refute it at one input. -/
def missingScoresWrong : ChangeSpec := { name := "missingScores", fn := fun _ => fun
  | [d1, d2] => { results := [.lit (.bool false)], args := [d1, d2] }
  | _ => none }
def MissingScoresWrongFalsely : Prop := missingScoresRow.holds Tryz.pinned (OpenSpec.ofChange missingScoresWrong)

/-- 'sidinglaw34.MissingFold': WHATEVER THE INPUT: true; the input reads as it did. -/
def missingFoldSpec : ChangeSpec := { name := "missingFold", fn := fun _ => fun
  | [d1, d2, d3, d4] => { results := [.lit (.bool true)], args := [d1, d2, d3, d4] }
  | _ => none }
def missingFoldRow : OpenClaim := { program := "ytgibdafkidkahaagreatdoor", sum := "0faea7bc5dabb4c7380535a7b06bd1f32be87faa64facba4595037fe0ba8ad17", func := "siding/sidinglaw34.MissingFold", spec := "missingFold", inPlace := ["internal/abi.NoEscape"], unfollowed := true, recurses := true, named := ["internal/strconv.uint64pow10", "math/bits.deBruijn32tab", "math/bits.deBruijn64tab"], plainKeys := false, apart := false, laid := [("math/bits.deBruijn32tab", laid_math_bits_deBruijn32tab), ("math/bits.deBruijn64tab", laid_math_bits_deBruijn64tab), ("internal/strconv.uint64pow10", laid_internal_strconv_uint64pow10)] }
def MissingFoldSaid : Prop := missingFoldRow.holds Tryz.pinned (OpenSpec.ofChange missingFoldSpec)

/-- ITS FALSE NEIGHBOUR: 'it returns false'. Refute it at one input. -/
def missingFoldWrong : ChangeSpec := { name := "missingFold", fn := fun _ => fun
  | [d1, d2, d3, d4] => { results := [.lit (.bool false)], args := [d1, d2, d3, d4] }
  | _ => none }
def MissingFoldWrongFalsely : Prop := missingFoldRow.holds Tryz.pinned (OpenSpec.ofChange missingFoldWrong)

/-- 'sidinglaw34.MissingCloses': WHATEVER THE INPUT: true; the input reads as it did. -/
def missingClosesSpec : ChangeSpec := { name := "missingCloses", fn := fun _ => fun
  | [d1, d2, d3, d4] => { results := [.lit (.bool true)], args := [d1, d2, d3, d4] }
  | _ => none }
def missingClosesRow : OpenClaim := { program := "ytgibdafkidkahaagreatdoor", sum := "0faea7bc5dabb4c7380535a7b06bd1f32be87faa64facba4595037fe0ba8ad17", func := "siding/sidinglaw34.MissingCloses", spec := "missingCloses", inPlace := ["internal/abi.NoEscape"], unfollowed := true, recurses := true, named := ["internal/strconv.uint64pow10", "math/bits.deBruijn32tab", "math/bits.deBruijn64tab"], plainKeys := false, apart := false, laid := [("math/bits.deBruijn32tab", laid_math_bits_deBruijn32tab), ("math/bits.deBruijn64tab", laid_math_bits_deBruijn64tab), ("internal/strconv.uint64pow10", laid_internal_strconv_uint64pow10)] }
def MissingClosesSaid : Prop := missingClosesRow.holds Tryz.pinned (OpenSpec.ofChange missingClosesSpec)

/-- ITS FALSE NEIGHBOUR: 'it returns false'. Refute it at one input. -/
def missingClosesWrong : ChangeSpec := { name := "missingCloses", fn := fun _ => fun
  | [d1, d2, d3, d4] => { results := [.lit (.bool false)], args := [d1, d2, d3, d4] }
  | _ => none }
def MissingClosesWrongFalsely : Prop := missingClosesRow.holds Tryz.pinned (OpenSpec.ofChange missingClosesWrong)

/-- 'sidinglaw41.ReportOne': WHATEVER THE INPUT: true; the input reads as it did. -/
def reportOneSpec : ChangeSpec := { name := "reportOne", fn := fun _ => fun
  | [d1, d2] => { results := [.lit (.bool true)], args := [d1, d2] }
  | _ => none }
def reportOneRow : OpenClaim := { program := "ytgibdafkidkahaagreatdoor", sum := "0faea7bc5dabb4c7380535a7b06bd1f32be87faa64facba4595037fe0ba8ad17", func := "siding/sidinglaw41.ReportOne", spec := "reportOne", inPlace := ["internal/abi.NoEscape", "internal/bytealg.MakeNoZero"], unfollowed := true, recurses := true, named := ["internal/strconv.uint64pow10", "math/bits.deBruijn32tab", "math/bits.deBruijn64tab"], plainKeys := false, apart := false, laid := [("math/bits.deBruijn32tab", laid_math_bits_deBruijn32tab), ("math/bits.deBruijn64tab", laid_math_bits_deBruijn64tab), ("internal/strconv.uint64pow10", laid_internal_strconv_uint64pow10)] }
def ReportOneSaid : Prop := reportOneRow.holds Tryz.pinned (OpenSpec.ofChange reportOneSpec)

/-- ITS FALSE NEIGHBOUR: 'it returns false'. Refute it at one input. -/
def reportOneWrong : ChangeSpec := { name := "reportOne", fn := fun _ => fun
  | [d1, d2] => { results := [.lit (.bool false)], args := [d1, d2] }
  | _ => none }
def ReportOneWrongFalsely : Prop := reportOneRow.holds Tryz.pinned (OpenSpec.ofChange reportOneWrong)

/-- 'sidinglaw43.NotesTurn': WHATEVER THE INPUT: true; the input reads as it did. -/
def notesTurnSpec : ChangeSpec := { name := "notesTurn", fn := fun _ => fun
  | [d1, d2, d3] => { results := [.lit (.bool true)], args := [d1, d2, d3] }
  | _ => none }
def notesTurnRow : OpenClaim := { program := "ytgibdafkidkahaagreatdoor", sum := "0faea7bc5dabb4c7380535a7b06bd1f32be87faa64facba4595037fe0ba8ad17", func := "siding/sidinglaw43.NotesTurn", spec := "notesTurn", inPlace := ["internal/abi.NoEscape"], unfollowed := true, recurses := true, named := ["internal/strconv.uint64pow10", "math/bits.deBruijn32tab", "math/bits.deBruijn64tab"], plainKeys := false, apart := false, laid := [("math/bits.deBruijn32tab", laid_math_bits_deBruijn32tab), ("math/bits.deBruijn64tab", laid_math_bits_deBruijn64tab), ("internal/strconv.uint64pow10", laid_internal_strconv_uint64pow10)] }
def NotesTurnSaid : Prop := notesTurnRow.holds Tryz.pinned (OpenSpec.ofChange notesTurnSpec)

/-- ITS FALSE NEIGHBOUR: 'it returns false'. Refute it at one input. -/
def notesTurnWrong : ChangeSpec := { name := "notesTurn", fn := fun _ => fun
  | [d1, d2, d3] => { results := [.lit (.bool false)], args := [d1, d2, d3] }
  | _ => none }
def NotesTurnWrongFalsely : Prop := notesTurnRow.holds Tryz.pinned (OpenSpec.ofChange notesTurnWrong)

/-- 'sidinglaw43.NotesLines': WHATEVER THE INPUT: true; the input reads as it did. -/
def notesLinesSpec : ChangeSpec := { name := "notesLines", fn := fun _ => fun
  | [d1, d2, d3] => { results := [.lit (.bool true)], args := [d1, d2, d3] }
  | _ => none }
def notesLinesRow : OpenClaim := { program := "ytgibdafkidkahaagreatdoor", sum := "0faea7bc5dabb4c7380535a7b06bd1f32be87faa64facba4595037fe0ba8ad17", func := "siding/sidinglaw43.NotesLines", spec := "notesLines", inPlace := ["internal/abi.NoEscape"], unfollowed := true, recurses := true, named := ["internal/strconv.uint64pow10", "math/bits.deBruijn32tab", "math/bits.deBruijn64tab"], plainKeys := false, apart := false, laid := [("math/bits.deBruijn32tab", laid_math_bits_deBruijn32tab), ("math/bits.deBruijn64tab", laid_math_bits_deBruijn64tab), ("internal/strconv.uint64pow10", laid_internal_strconv_uint64pow10)] }
def NotesLinesSaid : Prop := notesLinesRow.holds Tryz.pinned (OpenSpec.ofChange notesLinesSpec)

/-- ITS FALSE NEIGHBOUR: 'it returns false'. Refute it at one input. -/
def notesLinesWrong : ChangeSpec := { name := "notesLines", fn := fun _ => fun
  | [d1, d2, d3] => { results := [.lit (.bool false)], args := [d1, d2, d3] }
  | _ => none }
def NotesLinesWrongFalsely : Prop := notesLinesRow.holds Tryz.pinned (OpenSpec.ofChange notesLinesWrong)

/-- 'sidinglaw43.NotesOnce': WHATEVER THE INPUT: true; the input reads as it did. -/
def notesOnceSpec : ChangeSpec := { name := "notesOnce", fn := fun _ => fun
  | [d1, d2, d3] => { results := [.lit (.bool true)], args := [d1, d2, d3] }
  | _ => none }
def notesOnceRow : OpenClaim := { program := "ytgibdafkidkahaagreatdoor", sum := "0faea7bc5dabb4c7380535a7b06bd1f32be87faa64facba4595037fe0ba8ad17", func := "siding/sidinglaw43.NotesOnce", spec := "notesOnce", inPlace := ["internal/abi.NoEscape"], unfollowed := true, recurses := true, named := ["internal/strconv.uint64pow10", "math/bits.deBruijn32tab", "math/bits.deBruijn64tab"], plainKeys := false, apart := false, laid := [("math/bits.deBruijn32tab", laid_math_bits_deBruijn32tab), ("math/bits.deBruijn64tab", laid_math_bits_deBruijn64tab), ("internal/strconv.uint64pow10", laid_internal_strconv_uint64pow10)] }
def NotesOnceSaid : Prop := notesOnceRow.holds Tryz.pinned (OpenSpec.ofChange notesOnceSpec)

/-- ITS FALSE NEIGHBOUR: 'it returns false'. Refute it at one input. -/
def notesOnceWrong : ChangeSpec := { name := "notesOnce", fn := fun _ => fun
  | [d1, d2, d3] => { results := [.lit (.bool false)], args := [d1, d2, d3] }
  | _ => none }
def NotesOnceWrongFalsely : Prop := notesOnceRow.holds Tryz.pinned (OpenSpec.ofChange notesOnceWrong)

/-- 'sidinglaw43.NotesTells': WHATEVER THE INPUT: true; the input reads as it did. -/
def notesTellsSpec : ChangeSpec := { name := "notesTells", fn := fun _ => fun
  | [d1, d2, d3, d4] => { results := [.lit (.bool true)], args := [d1, d2, d3, d4] }
  | _ => none }
def notesTellsRow : OpenClaim := { program := "ytgibdafkidkahaagreatdoor", sum := "0faea7bc5dabb4c7380535a7b06bd1f32be87faa64facba4595037fe0ba8ad17", func := "siding/sidinglaw43.NotesTells", spec := "notesTells", inPlace := ["internal/abi.NoEscape"], unfollowed := true, recurses := true, named := ["internal/strconv.uint64pow10", "math/bits.deBruijn32tab", "math/bits.deBruijn64tab"], plainKeys := false, apart := false, laid := [("math/bits.deBruijn32tab", laid_math_bits_deBruijn32tab), ("math/bits.deBruijn64tab", laid_math_bits_deBruijn64tab), ("internal/strconv.uint64pow10", laid_internal_strconv_uint64pow10)] }
def NotesTellsSaid : Prop := notesTellsRow.holds Tryz.pinned (OpenSpec.ofChange notesTellsSpec)

/-- ITS FALSE NEIGHBOUR: 'it returns false'. Refute it at one input. -/
def notesTellsWrong : ChangeSpec := { name := "notesTells", fn := fun _ => fun
  | [d1, d2, d3, d4] => { results := [.lit (.bool false)], args := [d1, d2, d3, d4] }
  | _ => none }
def NotesTellsWrongFalsely : Prop := notesTellsRow.holds Tryz.pinned (OpenSpec.ofChange notesTellsWrong)

/-- 'sidinglaw43.NotesSince': WHATEVER THE INPUT: true; the input reads as it did. -/
def notesSinceSpec : ChangeSpec := { name := "notesSince", fn := fun _ => fun
  | [d1, d2, d3] => { results := [.lit (.bool true)], args := [d1, d2, d3] }
  | _ => none }
def notesSinceRow : OpenClaim := { program := "ytgibdafkidkahaagreatdoor", sum := "0faea7bc5dabb4c7380535a7b06bd1f32be87faa64facba4595037fe0ba8ad17", func := "siding/sidinglaw43.NotesSince", spec := "notesSince", inPlace := ["internal/abi.NoEscape"], unfollowed := true, recurses := true, named := ["internal/strconv.uint64pow10", "math/bits.deBruijn32tab", "math/bits.deBruijn64tab"], plainKeys := false, apart := false, laid := [("math/bits.deBruijn32tab", laid_math_bits_deBruijn32tab), ("math/bits.deBruijn64tab", laid_math_bits_deBruijn64tab), ("internal/strconv.uint64pow10", laid_internal_strconv_uint64pow10)] }
def NotesSinceSaid : Prop := notesSinceRow.holds Tryz.pinned (OpenSpec.ofChange notesSinceSpec)

/-- ITS FALSE NEIGHBOUR: 'it returns false'. Refute it at one input. -/
def notesSinceWrong : ChangeSpec := { name := "notesSince", fn := fun _ => fun
  | [d1, d2, d3] => { results := [.lit (.bool false)], args := [d1, d2, d3] }
  | _ => none }
def NotesSinceWrongFalsely : Prop := notesSinceRow.holds Tryz.pinned (OpenSpec.ofChange notesSinceWrong)

/-- 'sidinglaw41.ReportAgrees': WHATEVER THE INPUT: true; the input reads as it did. -/
def reportAgreesSpec : ChangeSpec := { name := "reportAgrees", fn := fun _ => fun
  | [d1, d2] => { results := [.lit (.bool true)], args := [d1, d2] }
  | _ => none }
def reportAgreesRow : OpenClaim := { program := "ytgibdafkidkahaagreatdoor", sum := "0faea7bc5dabb4c7380535a7b06bd1f32be87faa64facba4595037fe0ba8ad17", func := "siding/sidinglaw41.ReportAgrees", spec := "reportAgrees", inPlace := ["internal/abi.NoEscape", "internal/bytealg.MakeNoZero"], unfollowed := true, recurses := true, named := ["internal/strconv.uint64pow10", "math/bits.deBruijn32tab", "math/bits.deBruijn64tab"], plainKeys := false, apart := false, laid := [("math/bits.deBruijn32tab", laid_math_bits_deBruijn32tab), ("math/bits.deBruijn64tab", laid_math_bits_deBruijn64tab), ("internal/strconv.uint64pow10", laid_internal_strconv_uint64pow10)] }
def ReportAgreesSaid : Prop := reportAgreesRow.holds Tryz.pinned (OpenSpec.ofChange reportAgreesSpec)

/-- ITS FALSE NEIGHBOUR: 'it returns false'. Refute it at one input. -/
def reportAgreesWrong : ChangeSpec := { name := "reportAgrees", fn := fun _ => fun
  | [d1, d2] => { results := [.lit (.bool false)], args := [d1, d2] }
  | _ => none }
def ReportAgreesWrongFalsely : Prop := reportAgreesRow.holds Tryz.pinned (OpenSpec.ofChange reportAgreesWrong)

/- THE SECOND FORM. 'bulk': how many values and letters a reading holds, each counted each time it is reached (what is shared counts as often as it is met; a slice's spare places count too). A statement '..UptoSaid' is the law's where the arguments, and the package variables that the reading takes, are together of bulk at most 1048576: NARROWER than '..Said'. Prove '..Said' where nothing that the law and all that it calls make is longer than what came in: it says more and counts as full. Else prove '..UptoSaid'. A law counts once. -/
mutual
def uptoBulk {H : Type} : DataW H → Nat
  | .lit (.string bytes) => bytes.length + 1
  | .lit _ => 1
  | .nil => 1
  | .ptr d => uptoBulk d + 1
  | .slice elems spare => uptoBulkAll elems + uptoBulkAll spare + 1
  | .agg parts => uptoBulkAll parts + 1
  | .iface _ d => uptoBulk d + 1
  | .map entries => uptoBulkEntries entries + 1
  | .held _ => 1
def uptoBulkAll {H : Type} : List (DataW H) → Nat
  | [] => 0
  | d :: r => uptoBulk d + uptoBulkAll r
def uptoBulkEntries {H : Type} : List (Lit × DataW H) → Nat
  | [] => 0
  | x :: r => uptoBulkEntry x + uptoBulkEntries r
def uptoBulkEntry {H : Type} : Lit × DataW H → Nat
  | (.string bytes, d) => bytes.length + uptoBulk d + 1
  | (_, d) => uptoBulk d + 1
 end
def uptoSmall : (H : Type) → List (DataW H) → Bool := fun _ ds => decide (uptoBulkAll ds ≤ 1048576)
def OpenSpec.upto (s : _root_.Go.ChangeSpec) : _root_.Go.OpenSpec := { _root_.Go.OpenSpec.ofChange s with cond := some uptoSmall }

/-- 'sidinglaw34.MissingTells', WHERE WHAT IT READS IS OF BULK AT MOST 1048576: true; the input reads as it did. -/
def missingTellsUptoRow : OpenClaim := { program := "ytgibdafkidkahaagreatdoor", sum := "0faea7bc5dabb4c7380535a7b06bd1f32be87faa64facba4595037fe0ba8ad17", func := "siding/sidinglaw34.MissingTells", spec := "missingTells", inPlace := ["internal/abi.NoEscape"], unfollowed := true, recurses := true, named := ["internal/strconv.uint64pow10", "math/bits.deBruijn32tab", "math/bits.deBruijn64tab"], plainKeys := false, apart := false, laid := [("math/bits.deBruijn32tab", laid_math_bits_deBruijn32tab), ("math/bits.deBruijn64tab", laid_math_bits_deBruijn64tab), ("internal/strconv.uint64pow10", laid_internal_strconv_uint64pow10)], narrowed := true }
def MissingTellsUptoSaid : Prop := missingTellsUptoRow.holds Tryz.pinned (OpenSpec.upto missingTellsSpec)

/-- 'sidinglaw41.ReportSums', WHERE WHAT IT READS IS OF BULK AT MOST 1048576: true; the input reads as it did. -/
def reportSumsUptoRow : OpenClaim := { program := "ytgibdafkidkahaagreatdoor", sum := "0faea7bc5dabb4c7380535a7b06bd1f32be87faa64facba4595037fe0ba8ad17", func := "siding/sidinglaw41.ReportSums", spec := "reportSums", inPlace := ["internal/abi.NoEscape", "internal/bytealg.MakeNoZero"], unfollowed := true, recurses := true, named := ["internal/strconv.uint64pow10", "math/bits.deBruijn32tab", "math/bits.deBruijn64tab"], plainKeys := false, apart := false, laid := [("math/bits.deBruijn32tab", laid_math_bits_deBruijn32tab), ("math/bits.deBruijn64tab", laid_math_bits_deBruijn64tab), ("internal/strconv.uint64pow10", laid_internal_strconv_uint64pow10)], narrowed := true }
def ReportSumsUptoSaid : Prop := reportSumsUptoRow.holds Tryz.pinned (OpenSpec.upto reportSumsSpec)

/-- 'sidinglaw34.MissingScores', WHERE WHAT IT READS IS OF BULK AT MOST 1048576: true; the input reads as it did. -/
def missingScoresUptoRow : OpenClaim := { program := "ytgibdafkidkahaagreatdoor", sum := "0faea7bc5dabb4c7380535a7b06bd1f32be87faa64facba4595037fe0ba8ad17", func := "siding/sidinglaw34.MissingScores", spec := "missingScores", inPlace := ["internal/abi.NoEscape"], unfollowed := true, recurses := true, named := ["internal/strconv.uint64pow10", "math/bits.deBruijn32tab", "math/bits.deBruijn64tab"], plainKeys := false, apart := false, laid := [("math/bits.deBruijn32tab", laid_math_bits_deBruijn32tab), ("math/bits.deBruijn64tab", laid_math_bits_deBruijn64tab), ("internal/strconv.uint64pow10", laid_internal_strconv_uint64pow10)], narrowed := true }
def MissingScoresUptoSaid : Prop := missingScoresUptoRow.holds Tryz.pinned (OpenSpec.upto missingScoresSpec)

/-- 'sidinglaw34.MissingFold', WHERE WHAT IT READS IS OF BULK AT MOST 1048576: true; the input reads as it did. -/
def missingFoldUptoRow : OpenClaim := { program := "ytgibdafkidkahaagreatdoor", sum := "0faea7bc5dabb4c7380535a7b06bd1f32be87faa64facba4595037fe0ba8ad17", func := "siding/sidinglaw34.MissingFold", spec := "missingFold", inPlace := ["internal/abi.NoEscape"], unfollowed := true, recurses := true, named := ["internal/strconv.uint64pow10", "math/bits.deBruijn32tab", "math/bits.deBruijn64tab"], plainKeys := false, apart := false, laid := [("math/bits.deBruijn32tab", laid_math_bits_deBruijn32tab), ("math/bits.deBruijn64tab", laid_math_bits_deBruijn64tab), ("internal/strconv.uint64pow10", laid_internal_strconv_uint64pow10)], narrowed := true }
def MissingFoldUptoSaid : Prop := missingFoldUptoRow.holds Tryz.pinned (OpenSpec.upto missingFoldSpec)

/-- 'sidinglaw34.MissingCloses', WHERE WHAT IT READS IS OF BULK AT MOST 1048576: true; the input reads as it did. -/
def missingClosesUptoRow : OpenClaim := { program := "ytgibdafkidkahaagreatdoor", sum := "0faea7bc5dabb4c7380535a7b06bd1f32be87faa64facba4595037fe0ba8ad17", func := "siding/sidinglaw34.MissingCloses", spec := "missingCloses", inPlace := ["internal/abi.NoEscape"], unfollowed := true, recurses := true, named := ["internal/strconv.uint64pow10", "math/bits.deBruijn32tab", "math/bits.deBruijn64tab"], plainKeys := false, apart := false, laid := [("math/bits.deBruijn32tab", laid_math_bits_deBruijn32tab), ("math/bits.deBruijn64tab", laid_math_bits_deBruijn64tab), ("internal/strconv.uint64pow10", laid_internal_strconv_uint64pow10)], narrowed := true }
def MissingClosesUptoSaid : Prop := missingClosesUptoRow.holds Tryz.pinned (OpenSpec.upto missingClosesSpec)

/-- 'sidinglaw41.ReportOne', WHERE WHAT IT READS IS OF BULK AT MOST 1048576: true; the input reads as it did. -/
def reportOneUptoRow : OpenClaim := { program := "ytgibdafkidkahaagreatdoor", sum := "0faea7bc5dabb4c7380535a7b06bd1f32be87faa64facba4595037fe0ba8ad17", func := "siding/sidinglaw41.ReportOne", spec := "reportOne", inPlace := ["internal/abi.NoEscape", "internal/bytealg.MakeNoZero"], unfollowed := true, recurses := true, named := ["internal/strconv.uint64pow10", "math/bits.deBruijn32tab", "math/bits.deBruijn64tab"], plainKeys := false, apart := false, laid := [("math/bits.deBruijn32tab", laid_math_bits_deBruijn32tab), ("math/bits.deBruijn64tab", laid_math_bits_deBruijn64tab), ("internal/strconv.uint64pow10", laid_internal_strconv_uint64pow10)], narrowed := true }
def ReportOneUptoSaid : Prop := reportOneUptoRow.holds Tryz.pinned (OpenSpec.upto reportOneSpec)

/-- 'sidinglaw43.NotesTurn', WHERE WHAT IT READS IS OF BULK AT MOST 1048576: true; the input reads as it did. -/
def notesTurnUptoRow : OpenClaim := { program := "ytgibdafkidkahaagreatdoor", sum := "0faea7bc5dabb4c7380535a7b06bd1f32be87faa64facba4595037fe0ba8ad17", func := "siding/sidinglaw43.NotesTurn", spec := "notesTurn", inPlace := ["internal/abi.NoEscape"], unfollowed := true, recurses := true, named := ["internal/strconv.uint64pow10", "math/bits.deBruijn32tab", "math/bits.deBruijn64tab"], plainKeys := false, apart := false, laid := [("math/bits.deBruijn32tab", laid_math_bits_deBruijn32tab), ("math/bits.deBruijn64tab", laid_math_bits_deBruijn64tab), ("internal/strconv.uint64pow10", laid_internal_strconv_uint64pow10)], narrowed := true }
def NotesTurnUptoSaid : Prop := notesTurnUptoRow.holds Tryz.pinned (OpenSpec.upto notesTurnSpec)

/-- 'sidinglaw43.NotesLines', WHERE WHAT IT READS IS OF BULK AT MOST 1048576: true; the input reads as it did. -/
def notesLinesUptoRow : OpenClaim := { program := "ytgibdafkidkahaagreatdoor", sum := "0faea7bc5dabb4c7380535a7b06bd1f32be87faa64facba4595037fe0ba8ad17", func := "siding/sidinglaw43.NotesLines", spec := "notesLines", inPlace := ["internal/abi.NoEscape"], unfollowed := true, recurses := true, named := ["internal/strconv.uint64pow10", "math/bits.deBruijn32tab", "math/bits.deBruijn64tab"], plainKeys := false, apart := false, laid := [("math/bits.deBruijn32tab", laid_math_bits_deBruijn32tab), ("math/bits.deBruijn64tab", laid_math_bits_deBruijn64tab), ("internal/strconv.uint64pow10", laid_internal_strconv_uint64pow10)], narrowed := true }
def NotesLinesUptoSaid : Prop := notesLinesUptoRow.holds Tryz.pinned (OpenSpec.upto notesLinesSpec)

/-- 'sidinglaw43.NotesOnce', WHERE WHAT IT READS IS OF BULK AT MOST 1048576: true; the input reads as it did. -/
def notesOnceUptoRow : OpenClaim := { program := "ytgibdafkidkahaagreatdoor", sum := "0faea7bc5dabb4c7380535a7b06bd1f32be87faa64facba4595037fe0ba8ad17", func := "siding/sidinglaw43.NotesOnce", spec := "notesOnce", inPlace := ["internal/abi.NoEscape"], unfollowed := true, recurses := true, named := ["internal/strconv.uint64pow10", "math/bits.deBruijn32tab", "math/bits.deBruijn64tab"], plainKeys := false, apart := false, laid := [("math/bits.deBruijn32tab", laid_math_bits_deBruijn32tab), ("math/bits.deBruijn64tab", laid_math_bits_deBruijn64tab), ("internal/strconv.uint64pow10", laid_internal_strconv_uint64pow10)], narrowed := true }
def NotesOnceUptoSaid : Prop := notesOnceUptoRow.holds Tryz.pinned (OpenSpec.upto notesOnceSpec)

/-- 'sidinglaw43.NotesTells', WHERE WHAT IT READS IS OF BULK AT MOST 1048576: true; the input reads as it did. -/
def notesTellsUptoRow : OpenClaim := { program := "ytgibdafkidkahaagreatdoor", sum := "0faea7bc5dabb4c7380535a7b06bd1f32be87faa64facba4595037fe0ba8ad17", func := "siding/sidinglaw43.NotesTells", spec := "notesTells", inPlace := ["internal/abi.NoEscape"], unfollowed := true, recurses := true, named := ["internal/strconv.uint64pow10", "math/bits.deBruijn32tab", "math/bits.deBruijn64tab"], plainKeys := false, apart := false, laid := [("math/bits.deBruijn32tab", laid_math_bits_deBruijn32tab), ("math/bits.deBruijn64tab", laid_math_bits_deBruijn64tab), ("internal/strconv.uint64pow10", laid_internal_strconv_uint64pow10)], narrowed := true }
def NotesTellsUptoSaid : Prop := notesTellsUptoRow.holds Tryz.pinned (OpenSpec.upto notesTellsSpec)

/-- 'sidinglaw43.NotesSince', WHERE WHAT IT READS IS OF BULK AT MOST 1048576: true; the input reads as it did. -/
def notesSinceUptoRow : OpenClaim := { program := "ytgibdafkidkahaagreatdoor", sum := "0faea7bc5dabb4c7380535a7b06bd1f32be87faa64facba4595037fe0ba8ad17", func := "siding/sidinglaw43.NotesSince", spec := "notesSince", inPlace := ["internal/abi.NoEscape"], unfollowed := true, recurses := true, named := ["internal/strconv.uint64pow10", "math/bits.deBruijn32tab", "math/bits.deBruijn64tab"], plainKeys := false, apart := false, laid := [("math/bits.deBruijn32tab", laid_math_bits_deBruijn32tab), ("math/bits.deBruijn64tab", laid_math_bits_deBruijn64tab), ("internal/strconv.uint64pow10", laid_internal_strconv_uint64pow10)], narrowed := true }
def NotesSinceUptoSaid : Prop := notesSinceUptoRow.holds Tryz.pinned (OpenSpec.upto notesSinceSpec)

/-- 'sidinglaw41.ReportAgrees', WHERE WHAT IT READS IS OF BULK AT MOST 1048576: true; the input reads as it did. -/
def reportAgreesUptoRow : OpenClaim := { program := "ytgibdafkidkahaagreatdoor", sum := "0faea7bc5dabb4c7380535a7b06bd1f32be87faa64facba4595037fe0ba8ad17", func := "siding/sidinglaw41.ReportAgrees", spec := "reportAgrees", inPlace := ["internal/abi.NoEscape", "internal/bytealg.MakeNoZero"], unfollowed := true, recurses := true, named := ["internal/strconv.uint64pow10", "math/bits.deBruijn32tab", "math/bits.deBruijn64tab"], plainKeys := false, apart := false, laid := [("math/bits.deBruijn32tab", laid_math_bits_deBruijn32tab), ("math/bits.deBruijn64tab", laid_math_bits_deBruijn64tab), ("internal/strconv.uint64pow10", laid_internal_strconv_uint64pow10)], narrowed := true }
def ReportAgreesUptoSaid : Prop := reportAgreesUptoRow.holds Tryz.pinned (OpenSpec.upto reportAgreesSpec)

end Rows
end Go.Proofs.YtgibdafkidkahaaGreatDoor
