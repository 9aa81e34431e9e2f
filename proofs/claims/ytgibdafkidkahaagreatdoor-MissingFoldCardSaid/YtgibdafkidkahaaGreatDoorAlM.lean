/- Derived: plain: the chapter's example, reckoned. -/
import Derived.Test.YtgibdafkidkahaaGreatDoorScores
import Derived.KernelRfl
set_option linter.unusedVariables false
set_option linter.unusedSimpArgs false
namespace Go.Proofs.YtgibdafkidkahaaGreatDoor
open Go.RowKit

def sA : Str := ⟨#[97]⟩
def sMain : Str := ⟨#[109, 97, 105, 110]⟩
def sR1 : Str := ⟨#[114, 49]⟩
def exG : Lg := ⟨[⟨sA, 3⟩], [⟨sMain, ⟨#[]⟩, 0⟩, ⟨sR1, sMain, 0⟩], [[⟨1, sA⟩], []]⟩
def exF : List Fx := [⟨3, 5, [sMain, sR1]⟩, ⟨1, 9, [sR1]⟩]
theorem ex_check : checkF exG exF = 0 := by kernel_rfl
theorem ex_gaps : gapsL exG exF = [⟨sR1, 1, 9⟩, ⟨sR1, 3, 5⟩] := by kernel_rfl
theorem ex_text : textL exG exF = ⟨#[57, 32, 49, 32, 114, 49, 10, 53, 32, 51, 32, 114, 49, 10]⟩ := by kernel_rfl
theorem ex_worstE : worstE exG exF = 0 := by kernel_rfl
theorem ex_worst : worstV exG exF = (⟨#[114, 49]⟩, 14) := by kernel_rfl
end Go.Proofs.YtgibdafkidkahaaGreatDoor
