/- Derived: regions that draw their order: a plan that may part in two where two calls may come in either order. -/
import Derived.Test.YtgibdafkidkahaaGreatDoorPlan
import Derived.Test.YtgibdafkidkahaaGreatDoorGrw
set_option linter.unusedVariables false
set_option linter.unusedSimpArgs false
namespace Go.Proofs.YtgibdafkidkahaaGreatDoor
open Go.RowKit

inductive Pln where
  | nil
  | rd (i : Nat) (p : Pln)
  | tn (i : Nat) (p : Pln)
  | two (i j : Nat) (p q : Pln)
inductive PlnO where
  | nil
  | rd (o : Oper) (p : PlnO)
  | tn (o : Oper) (p : PlnO)
  | two (o1 o2 : Oper) (p q : PlnO)
def rds : List Nat → Pln → Pln
  | [], p => p
  | i :: l, p => .rd i (rds l p)
section
variable {P : Program} {ops : Array Oper} {md : Region.Mode} {C : World → Prop} {Q : Exit → Act → World → Prop}
def plnOf (l : List Oper) : Pln → PlnO
  | .nil => .nil
  | .rd i p => match l[i]? with | some o => .rd o (plnOf l p) | none => .nil
  | .tn i p => match l[i]? with | some o => .tn o (plnOf l p) | none => .nil
  | .two i j p q => match l[i]? with | some o => (match l[j]? with | some o2 => .two o o2 (plnOf l p) (plnOf l q) | none => .nil) | none => .nil
def plnB (md : Region.Mode) (l : List Oper) : Nat → Pln → Array Bool → Bool
  | n, .nil, listed => decide (n = 0) && (Region.ready md l.toArray listed).isEmpty
  | 0, _, _ => false
  | n + 1, .rd i p, listed => (Region.ready md l.toArray listed).contains i && Region.free md l.toArray listed i && (match l[i]? with | some o => isRead o | none => false) && plnB md l n p (listed.setIfInBounds i true)
  | n + 1, .tn i p, listed => decide (Region.ready md l.toArray listed = [i]) && (l[i]?).isSome && plnB md l n p (listed.setIfInBounds i true)
  | n + 1, .two i j p q, listed => decide (Region.ready md l.toArray listed = [i, j]) && (l[i]?).isSome && (l[j]?).isSome && plnB md l n p (listed.setIfInBounds i true) && plnB md l n q (listed.setIfInBounds j true)
def wpPln (P : Program) (ops : Array Oper) (C : World → Prop) (Q : Exit → Act → World → Prop) : PlnO → Act → World → Prop
  | .nil, a, w => Q .normal a w
  | .rd o p, a, w => wpQuiet P ops C (fun a' => wpPln P ops C Q p a' w) [o] a
  | .tn o p, a, w => opWp P ops o (fun a' w' => C w' ∧ wpPln P ops C Q p a' w') a w
  | .two o1 o2 p q, a, w => opWp P ops o1 (fun a' w' => C w' ∧ wpPln P ops C Q p a' w') a w ∧ opWp P ops o2 (fun a' w' => C w' ∧ wpPln P ops C Q q a' w') a w
theorem anyC_pln {l : List Oper} (hsel : Region.noSelect l.toArray = true) : ∀ (n : Nat) (p : Pln) (listed : Array Bool) (a : Act) (w : World), plnB md l n p listed = true → C w → wpPln P l.toArray C Q (plnOf l p) a w → anyC P md l.toArray C Q n listed a w
  | n, .nil, listed, a, w, hB, hC, h => by
    cases n with
    | zero => simp only [plnB, Bool.and_eq_true] at hB; exact ⟨by simpa using hB.2, h⟩
    | succ n => simp [plnB] at hB
  | 0, .rd i p, listed, a, w, hB, hC, h => by simp [plnB] at hB
  | 0, .tn i p, listed, a, w, hB, hC, h => by simp [plnB] at hB
  | 0, .two i j p q, listed, a, w, hB, hC, h => by simp [plnB] at hB
  | n + 1, .rd i p, listed, a, w, hB, hC, h => by
    cases hi : l[i]? with
    | none => simp [plnB, hi] at hB
    | some o =>
      simp only [plnB, Bool.and_eq_true, hi] at hB
      simp only [plnOf, hi] at h
      obtain ⟨⟨⟨h1, h2⟩, h3⟩, h4⟩ := hB
      obtain ⟨v, hy, hK⟩ := reads_of_quiet h3 h ⟨w, hC⟩
      have hi' : l.toArray[i]? = some o := by simpa using hi
      exact anyC_first hi' (Region.noSelect_spec hsel) n listed a w hC (Region.free_spec hi' h2) (by simpa using h1) hy (anyC_pln hsel n p _ _ w h4 hC hK)
  | n + 1, .tn i p, listed, a, w, hB, hC, h => by
    cases hi : l[i]? with
    | none => simp [plnB, hi] at hB
    | some o =>
      simp only [plnB, Bool.and_eq_true, decide_eq_true_eq] at hB
      simp only [plnOf, hi] at h
      obtain ⟨⟨h1, _⟩, h4⟩ := hB
      refine ⟨fun h0 => (by rw [h1] at h0; cases h0), fun j hj => ?_⟩
      rw [h1] at hj
      have : j = i := by simpa using hj
      subst this
      exact ⟨o, by simpa using hi, opWp_mono (fun a' w' h' => ⟨h'.1, anyC_pln hsel n p _ _ w' h4 h'.1 h'.2⟩) h⟩
  | n + 1, .two i k p q, listed, a, w, hB, hC, h => by
    cases hi : l[i]? with
    | none => simp [plnB, hi] at hB
    | some o =>
      cases hk : l[k]? with
      | none => simp [plnB, hk] at hB
      | some o2 =>
        simp only [plnB, Bool.and_eq_true, decide_eq_true_eq] at hB
        simp only [plnOf, hi, hk] at h
        obtain ⟨⟨⟨⟨h1, _⟩, _⟩, h4⟩, h5⟩ := hB
        refine ⟨fun h0 => (by rw [h1] at h0; cases h0), fun j hj => ?_⟩
        rw [h1] at hj
        rcases (show j = i ∨ j = k by simpa using hj) with rfl | rfl
        · exact ⟨o, by simpa using hi, opWp_mono (fun a' w' h' => ⟨h'.1, anyC_pln hsel n p _ _ w' h4 h'.1 h'.2⟩) h.1⟩
        · exact ⟨o2, by simpa using hk, opWp_mono (fun a' w' h' => ⟨h'.1, anyC_pln hsel n q _ _ w' h5 h'.1 h'.2⟩) h.2⟩
theorem wp_region_pln {id : Nat} {a : Act} {w w0 : World} {l : List Oper} (he : Ext w0 w) (p : Pln) (hm : P.follows .mixedOrders = true)
    (hB : (Region.noSelect l.toArray && plnB .any l l.length p (Array.replicate l.length false)) = true)
    (h : wpPln P l.toArray (CU w0) Q (plnOf l p) a w.drew) : (Code.region id l.toArray true).wp P Q a w := by
  simp only [Bool.and_eq_true] at hB
  refine wp_region_any hm (wpAny_of_anyC (C := CU w0) _ _ _ _ ?_)
  have := anyC_pln (C := CU w0) (Q := Q) (md := .any) hB.1 l.length p (Array.replicate l.length false) a w.drew hB.2 (cu_of he.drew) h
  simpa using this
theorem pln_read {o : Oper} {q : PlnO} {a : Act} {w : World} (h : wpQuiet P ops C (fun a' => wpPln P ops C Q q a' w) [o] a) : wpPln P ops C Q (.rd o q) a w := h
theorem pln_end {a : Act} {w : World} (h : Q .normal a w) : wpPln P ops C Q .nil a w := h
theorem pln_enter {w0 : World} {q : PlnO} {a : Act} {w : World} {d : Option Tmp} {ty : TypeId} {pos : String} {af : Array Edge} {x : Operand} {xs : List Operand} {tys : Array TypeId} {F : Nat} {caps : List Value}
    (hx : a.eval x = .func (.func F) #[] caps.toArray) (hF : ∀ args w, (callFunc F args).run P w = .ok (.enter F args) w) (he : Ext w0 w)
    (h : Calls P F (xs.map a.eval ++ caps).toArray w fun e w' => ∃ v, e = .returned v ∧ Ext w w' ∧ wpPln P ops (CU w0) Q q (a.put d v) w') :
    wpPln P ops (CU w0) Q (.tn { dst := d, op := .call { callee := .value x, args := xs.toArray, argTypes := tys }, type := ty, pos := pos, after := af, guard := none } q) a w :=
  plan_call (o := { dst := d, op := .call { callee := .value x, args := xs.toArray, argTypes := tys }, type := ty, pos := pos, after := af, guard := none }) (args := (xs.map a.eval).toArray) (caps := caps.toArray) rfl rfl hx (by simp) hF
    (by rw [List.append_toArray]; exact h.mono fun e w' ⟨v, h1, h2, h3⟩ => ⟨v, h1, cu_of (he.trans h2), h3⟩)
theorem pln_two {o1 o2 : Oper} {p q : PlnO} {a : Act} {w : World} (h1 : wpPln P ops C Q (.tn o1 p) a w) (h2 : wpPln P ops C Q (.tn o2 q) a w) : wpPln P ops C Q (.two o1 o2 p q) a w := ⟨h1, h2⟩
theorem pln_value {w0 : World} {q : PlnO} {a : Act} {w w1 : World} {o : Oper} {v : Value} (hg : o.guard = none) (hr : (execOp a.eval o).run P w = .ok (.value v) w1) (he : Ext w0 w1)
    (h : wpPln P ops (CU w0) Q q (a.put o.dst v) w1) : wpPln P ops (CU w0) Q (.tn o q) a w :=
  plan_run hg hr ⟨cu_of he, h⟩
theorem pln_one {w0 : World} {q : PlnO} {a : Act} {w : World} {o : Oper} (hp : isPlain o = true)
    (h : wpList P ops (QN fun a' w' => Ext w0 w' ∧ wpPln P ops (CU w0) Q q a' w') [o] a w) : wpPln P ops (CU w0) Q (.tn o q) a w :=
  opWp_mono (fun a' w' h => ⟨cu_of h.2.1, h.2.2⟩) (opWp_of_list hp h)
end
end Go.Proofs.YtgibdafkidkahaaGreatDoor
