/- Derived: walks: is a row of events too long? -/
import Derived.Test.YtgibdafkidkahaaGreatDoorIdxF
import Derived.Test.YtgibdafkidkahaaGreatDoorLedM
set_option linter.unusedVariables false
set_option linter.unusedSimpArgs false
namespace Go.Proofs.YtgibdafkidkahaaGreatDoor
open Go.RowKit

def tooLong (s : List Ev) : Bool := decide (40 < s.length)
theorem check_closure (D : Option Addr) (n c : Nat) (w : World) :
    Calls Tryz.prog 201 #[.slice D n c] w fun e w' => e = .returned (.bool (decide (40 < n))) ∧ Ext w w' := by
  go_enter Tryz.func201, Tryz.ntmps201
  by_cases h : 40 < n
  · go_wp2
    go_ret
    exact ⟨by simp only [h, decide_true, decide_false]; first | rfl | (simp; omega), Ext.refl _⟩
  · go_wp2
    go_ret
    exact ⟨by simp only [h, decide_true, decide_false]; first | rfl | (simp; omega), Ext.refl _⟩
theorem IndexFunc_Evs (l : List (List Ev)) (A : Option Addr) (c : Nat) (w : World) (hl : Rd (El.sl elEv) w A l) :
    Calls Tryz.prog 247 #[.slice A l.length c, .func (.func 201) #[] #[]] w fun e w' => e = .returned (.int .i64 (idxP tooLong l)) ∧ Ext w w' := by
  have hm := hl.1
  have hF : ∀ args w, (callFunc 201 args).run Tryz.prog w = .ok (.enter 201 args) w := fun _ _ => by kernel_rfl
  go_enter Tryz.func247, Tryz.ntmps247
  go_wp2
  go_loopw [8] (fun i wr => ∃ k : Nat, k ≤ l.length ∧ i = .int .i64 k ∧ Hid (∀ j x, j < k → l[j]? = some x → tooLong x = false) ∧ Hid (Ext w wr)) (fun i _ => l.length - (intOf i).toNat)
  case atStart => exact ⟨0, Nat.zero_le _, rfl, fun j x hj => absurd hj (by omega), Ext.refl w⟩
  case round =>
    obtain ⟨k, hk, rfl, hn, hE⟩ := hrel
    by_cases hlt : k < l.length
    · have hx : l[k]? = some l[k] := List.getElem?_eq_getElem hlt
      generalize l[k] = x at hx
      obtain ⟨ad, D, cD, rfl, h0, h1, h2⟩ := (hl.ext hE.out).sub hx
      have HX := Lib.hid hx
      have HC := Lib.hid (check_closure D x.length cD wr)
      clear hx hl h2
      by_cases hpx : 40 < x.length
      · have HP : Hid (tooLong x = true) := Lib.hid (decide_eq_true hpx)
        rw [decide_eq_true hpx] at HC
        clear hpx
        go_wp2_with fail
        refine HC.out.mono ?_
        rintro e w2 ⟨rfl, hE2⟩
        have hE3 := Lib.hid (hE.out.trans hE2)
        clear hE hE2
        go_wp2
        go_ret
        exact ⟨ret_int (idxP_found HX.out hn.out HP.out).symm, hE3.out⟩
      · have HP : Hid (tooLong x = false) := Lib.hid (decide_eq_false hpx)
        rw [decide_eq_false hpx] at HC
        clear hpx
        go_wp2_with fail
        refine HC.out.mono ?_
        rintro e w2 ⟨rfl, hE2⟩
        have hE3 := Lib.hid (hE.out.trans hE2)
        clear hE hE2
        go_wp2
        go_roundw
        case rel =>
          refine ⟨k + 1, by omega, by go_num, fun j y hj hy => ?_, hE3.out⟩
          rcases Nat.lt_succ_iff_lt_or_eq.1 hj with h | rfl
          · exact hn.out j y h hy
          · rw [HX.out] at hy; cases hy; exact HP.out
        case measure => simp [intOf]; omega
    · go_wp2
      go_ret
      refine ⟨ret_int (idxP_none fun j y hy => hn.out j y ?_ hy).symm, hE.out⟩
      have := (List.getElem?_eq_some_iff.1 hy).1
      omega
theorem ContainsFunc_Evs (l : List (List Ev)) (A : Option Addr) (c : Nat) (w : World) (hl : Rd (El.sl elEv) w A l) :
    Calls Tryz.prog 200 #[.slice A l.length c, .func (.func 201) #[] #[]] w fun e w' => e = .returned (.bool (l.any tooLong)) ∧ Ext w w' := by
  go_enter Tryz.func200, Tryz.ntmps200
  go_wp2_with fail
  refine (IndexFunc_Evs l A c w hl).mono ?_
  rintro e w2 ⟨rfl, hE2⟩
  have hb : decide (0 ≤ idxP tooLong l) = l.any tooLong := idxP_any tooLong l
  have HE := Lib.hid hE2
  clear hE2
  go_wp2
  go_ret
  exact ⟨rfl, HE.out⟩
end Go.Proofs.YtgibdafkidkahaaGreatDoor
