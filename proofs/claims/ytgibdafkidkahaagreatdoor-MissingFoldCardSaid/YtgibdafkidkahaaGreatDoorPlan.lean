/- Derived: regions that draw their order: what only reads is taken first; what turns memory comes one by one. -/
import Derived.Test.YtgibdafkidkahaaGreatDoorBase
set_option linter.unusedVariables false
set_option linter.unusedSimpArgs false
namespace Go.Proofs.YtgibdafkidkahaaGreatDoor
open Go.RowKit

section
variable {P : Program} {ops : Array Oper} {md : Region.Mode} {C : World → Prop} {Q : Exit → Act → World → Prop}

/-- An operation that yields a value, whatever comes. -/
def isRead (o : Oper) : Bool :=
  match o.op with
  | .move _ | .assign _ | .pick .. | .load .. | .binOp .. | .unOp .. | .slice .. | .fieldAddr .. | .field .. | .indexAddr .. | .index .. | .lookup .. | .extract .. | .convert .. => true
  | .call c => match c.callee with | .builtin .min | .builtin .len => true | _ => false
  | _ => false
theorem run_v {s : Sem Value} {w w' : World} {n : Next} (h : (do pure (Next.value (← s)) : Sem Next).run P w = .ok n w') : ∃ u, n = .value u := by
  rw [Sem.run_bind] at h
  cases hs : s.run P w with
  | ok v w1 => rw [hs] at h; simp only [Result.andThen, Sem.run_pure] at h; cases h; exact ⟨_, rfl⟩
  | halt x w1 => rw [hs] at h; cases h
theorem run_vb {s : Sem Bool} {x y : Value} {w w' : World} {n : Next} (h : (do pure (Next.value (if ← s then x else y)) : Sem Next).run P w = .ok n w') : ∃ u, n = .value u := by
  rw [Sem.run_bind] at h
  cases hs : s.run P w with
  | ok v w1 => rw [hs] at h; simp only [Result.andThen, Sem.run_pure] at h; cases h; exact ⟨_, rfl⟩
  | halt x w1 => rw [hs] at h; cases h
theorem isRead_value {o : Oper} (h : isRead o = true) {r : Operand → Value} {w w' : World} {n : Next} (hr : (execOp r o).run P w = .ok n w') : ∃ u, n = .value u := by
  obtain ⟨d, op, ty, pos, af, gd⟩ := o
  cases op <;> simp only [isRead, Bool.false_eq_true] at h <;> try exact run_v hr
  case move => simp only [execOp, Sem.run_pure] at hr; cases hr; exact ⟨_, rfl⟩
  case assign => simp only [execOp, Sem.run_pure] at hr; cases hr; exact ⟨_, rfl⟩
  case pick => exact run_vb hr
  case call c =>
    obtain ⟨cal, args, tys⟩ := c
    cases cal with
    | builtin b =>
      cases b <;> simp only [Bool.false_eq_true] at h
      all_goals
        simp only [execOp, resolve, Sem.run_bind, Sem.run_pure, Result.andThen, invoke] at hr
        exact run_v hr
    | _ => simp at h
/-- An operation, what follows it asked where it returns alone. -/
def opUpon (P : Program) (o : Oper) (a : Act) (K : Act → World → Prop) : Result Next → Prop
  | .ok (.value u) w' => K (a.put o.dst u) w'
  | .ok .skip w' => K (a.put o.dst undef) w'
  | .ok (.enter f args) w' => Calls P f args w' fun e w'' => ∃ v, e = .returned v ∧ K (a.put o.dst v) w''
  | _ => False
def opWp (P : Program) (ops : Array Oper) (o : Oper) (K : Act → World → Prop) (a : Act) (w : World) : Prop :=
  if Region.wanted o (yielded ops a.tmps) then opUpon P o a K ((execOp a.eval o).run P w) else K (a.put o.dst undef) w
theorem opUpon_mono {o : Oper} {a : Act} {K K' : Act → World → Prop} {r : Result Next} (h : ∀ a w, K a w → K' a w) (hh : opUpon P o a K r) : opUpon P o a K' r := by
  cases r with
  | ok n w' =>
    cases n <;> simp only [opUpon] at hh ⊢
    case enter f args => exact hh.mono fun e w'' ⟨v, h1, h2⟩ => ⟨v, h1, h _ _ h2⟩
    all_goals exact h _ _ hh
  | halt x w' => simp only [opUpon] at hh
theorem opWp_mono {o : Oper} {a : Act} {w : World} {K K' : Act → World → Prop} (h : ∀ a w, K a w → K' a w) (hh : opWp P ops o K a w) : opWp P ops o K' a w := by
  unfold opWp at *
  split
  · rename_i hw; rw [if_pos hw] at hh; exact opUpon_mono h hh
  · rename_i hw; rw [if_neg hw] at hh; exact h _ _ hh
theorem wpOp_of_opWp {i : Nat} {o : Oper} {a : Act} {w : World} {K K' : Act → World → Prop} (hi : ops[i]? = some o) (h : ∀ a w, K a w → K' a w) (hh : opWp P ops o K a w) : wpOp P ops Q i K' a w := by
  unfold opWp at hh
  unfold wpOp
  simp only [hi]
  split
  · rename_i hw
    rw [if_pos hw] at hh
    left
    unfold Oper.wp
    generalize (execOp a.eval o).run P w = r at *
    cases r with
    | ok n w' =>
      cases n <;> simp only [opUpon] at hh <;> simp only [Oper.upon]
      case enter f args => exact hh.mono fun e w'' ⟨v, h1, h2⟩ => by subst h1; exact h _ _ h2
      all_goals exact h _ _ hh
    | halt x w' => simp only [opUpon] at hh
  · rename_i hw; rw [if_neg hw] at hh; exact h _ _ hh

/-- In this state, in every world of the class, a reading operation yields this. -/
def ReadsAs (P : Program) (ops : Array Oper) (C : World → Prop) (o : Oper) (v : Value) (a : Act) : Prop :=
  (Region.wanted o (yielded ops a.tmps) = true ∧ ∀ w, C w → (execOp a.eval o).run P w = .ok (.value v) w) ∨ (Region.wanted o (yielded ops a.tmps) = false ∧ v = undef)
theorem ReadsAs.op {o : Oper} {v : Value} {a : Act} {w : World} (hw : C w) (hy : ReadsAs P ops C o v a) {K : Act → World → Prop} (h : K (a.put o.dst v) w) : opWp P ops o K a w := by
  unfold opWp
  rcases hy with ⟨h1, h2⟩ | ⟨h1, rfl⟩
  · rw [if_pos h1, h2 w hw]; exact h
  · rw [h1, if_neg (by simp)]; exact h
theorem ReadsAs.of_same {o : Oper} {v : Value} {a a' : Act} (hy : ReadsAs P ops C o v a) (he : execOp a'.eval o = execOp a.eval o)
    (hw : Region.wanted o (yielded ops a'.tmps) = Region.wanted o (yielded ops a.tmps)) : ReadsAs P ops C o v a' := by
  unfold ReadsAs at *
  rw [he, hw]
  exact hy
theorem opWp_put {oi oj : Oper} {v : Value} (hap : oi.apart ops oj = true)
    (hsi : ∀ cs b, oi.op ≠ .select cs b) (hsj : ∀ cs b, oj.op ≠ .select cs b) {K : Act → World → Prop} {a : Act} {w : World}
    (hy : ReadsAs P ops C oi v a) (h : opWp P ops oj K (a.put oi.dst v) w) :
    opWp P ops oj (fun a' w' => ReadsAs P ops C oi v a' ∧ K (a'.put oi.dst v) w') a w := by
  obtain ⟨h1, h2, h3⟩ := Oper.apart_spec hap
  have keep : ∀ (a : Act), ReadsAs P ops C oi v a → ∀ u, ReadsAs P ops C oi v (a.put oj.dst u) := fun a hy u =>
    hy.of_same (execOp_put oi hsi a oj.dst u h3) (wanted_put oi a oj.dst u h3)
  have hc : ∀ u, (a.put oi.dst v).put oj.dst u = (a.put oj.dst u).put oi.dst v := fun u => Act.put_comm a v u h2
  unfold opWp at *
  rw [wanted_put oj a oi.dst v h1, execOp_put oj hsj a oi.dst v h1] at h
  split
  · rename_i hw
    rw [if_pos hw] at h
    generalize (execOp a.eval oj).run P w = r at *
    cases r with
    | ok n w' =>
      cases n <;> simp only [opUpon] at h ⊢
      case enter f args => exact h.mono fun e w'' ⟨u, e1, e2⟩ => ⟨u, e1, keep a hy u, by rw [← hc]; exact e2⟩
      all_goals exact ⟨keep a hy _, by rw [← hc]; exact h⟩
    | halt x w' => simp only [opUpon] at h
  · rename_i hw
    rw [if_neg hw] at h
    exact ⟨keep a hy _, by rw [← hc]; exact h⟩

/-- Whatever order is picked from here on, the worlds between being of the class. -/
def anyC (P : Program) (md : Region.Mode) (ops : Array Oper) (C : World → Prop) (Q : Exit → Act → World → Prop) : Nat → Array Bool → Act → World → Prop
  | 0, listed, a, w => Region.ready md ops listed = [] ∧ Q .normal a w
  | f + 1, listed, a, w => (Region.ready md ops listed = [] → Q .normal a w) ∧ ∀ i ∈ Region.ready md ops listed, ∃ o, ops[i]? = some o ∧ opWp P ops o (fun a' w' => C w' ∧ anyC P md ops C Q f (listed.setIfInBounds i true) a' w') a w
theorem wpAny_of_anyC : ∀ (f : Nat) (listed : Array Bool) (a : Act) (w : World), anyC P md ops C Q f listed a w → wpAny P md ops Q f listed a w
  | 0, _, _, _, h => h
  | f + 1, _, _, _, h => ⟨h.1, fun i hi => by
    obtain ⟨o, h1, h2⟩ := h.2 i hi
    exact wpOp_of_opWp h1 (fun a' w' h' => wpAny_of_anyC f _ a' w' h'.2) h2⟩
theorem anyC_first {i : Nat} {oi : Oper} {v : Value} (hi : ops[i]? = some oi) (hsel : ∀ (j : Nat) (o : Oper) cs b, ops[j]? = some o → o.op ≠ .select cs b) :
    ∀ (f : Nat) (listed : Array Bool) (a : Act) (w : World), C w →
      (∀ j oj, ops[j]? = some oj → j ≠ i → listed.getD j true = false → (∀ e ∈ oj.after, Region.binds md e = true → e.on ≠ i) → oi.apart ops oj = true) →
      i ∈ Region.ready md ops listed → ReadsAs P ops C oi v a →
      anyC P md ops C Q f (listed.setIfInBounds i true) (a.put oi.dst v) w → anyC P md ops C Q (f + 1) listed a w := by
  intro f
  induction f with
  | zero =>
    intro listed a w hw _ hr hy H
    refine ⟨fun h => (by rw [h] at hr; cases hr), fun j hj => ?_⟩
    by_cases hji : j = i
    · subst hji; exact ⟨oi, hi, hy.op hw ⟨hw, H⟩⟩
    · have := ready_mono hj hji
      rw [H.1] at this
      cases this
  | succ f ih =>
    intro listed a w hw hfree hr hy H
    refine ⟨fun h => (by rw [h] at hr; cases hr), fun j hj => ?_⟩
    by_cases hji : j = i
    · subst hji; exact ⟨oi, hi, hy.op hw ⟨hw, H⟩⟩
    · obtain ⟨oj, hoj, h1⟩ := H.2 j (ready_mono hj hji)
      obtain ⟨hjun, oj', hoj', hall⟩ := mem_ready.1 hj
      have : oj' = oj := Option.some.inj (hoj'.symm.trans hoj)
      subst this
      have hnot : ∀ e ∈ oj'.after, Region.binds md e = true → e.on ≠ i := fun e he hb heq => by
        have h1 := hall e he hb
        have h0 := (mem_ready.1 hr).1
        rw [heq] at h1
        rcases Nat.lt_or_ge i listed.size with h' | h'
        · simp [h'] at h0 h1; rw [h0] at h1; cases h1
        · simp [Array.getElem?_eq_none h'] at h1
      have hap := hfree j oj' hoj hji hjun hnot
      refine ⟨oj', hoj, ?_⟩
      have h2 := opWp_put hap (fun cs b => hsel i oi cs b hi) (fun cs b => hsel j oj' cs b hoj) hy h1
      have hfree' : ∀ k ok, ops[k]? = some ok → k ≠ i → (listed.setIfInBounds j true).getD k true = false →
          (∀ e ∈ ok.after, Region.binds md e = true → e.on ≠ i) → oi.apart ops ok = true := fun k ok hk hki hun hno => by
        refine hfree k ok hk hki ?_ hno
        by_cases hjk : j = k
        · subst hjk; exact hjun
        · rw [getD_set_ne true hjk] at hun; exact hun
      refine opWp_mono (fun a' w' ⟨h3, h4, h5⟩ => ⟨h4, ih (listed.setIfInBounds j true) a' w' h4 hfree' (ready_mono hr (Ne.symm hji)) h3 ?_⟩) h2
      rw [Array.setIfInBounds_comm _ _ hji]
      exact h5

/-- A plan: some reading operations, then one that turns memory; and so on; at the end reading ones. -/
def planB (md : Region.Mode) (ops : Array Oper) : List (Bool × Nat) → Array Bool → Bool
  | [], listed => (Region.ready md ops listed).isEmpty
  | (true, i) :: p, listed => (Region.ready md ops listed).contains i && Region.free md ops listed i && (match ops[i]? with | some o => isRead o | none => false) && planB md ops p (listed.setIfInBounds i true)
  | (false, i) :: p, listed => decide (Region.ready md ops listed = [i]) && (ops[i]?).isSome && planB md ops p (listed.setIfInBounds i true)
/-- The walk of a plan: reading operations yield, in every world of the class, one value. -/
def wpPlan (P : Program) (ops : Array Oper) (C : World → Prop) (Q : Exit → Act → World → Prop) : List (Bool × Oper) → Act → World → Prop
  | [], a, w => Q .normal a w
  | (true, o) :: p, a, w => wpQuiet P ops C (fun a' => wpPlan P ops C Q p a' w) [o] a
  | (false, o) :: p, a, w => opWp P ops o (fun a' w' => C w' ∧ wpPlan P ops C Q p a' w') a w
theorem reads_of_quiet {o : Oper} {a : Act} {K : Act → Prop} (hr : isRead o = true) (h : wpQuiet P ops C K [o] a) (hne : ∃ w, C w) : ∃ v, ReadsAs P ops C o v a ∧ K (a.put o.dst v) := by
  simp only [wpQuiet] at h
  split at h
  · rename_i hw
    obtain ⟨v, h1, h2⟩ := h
    refine ⟨v, .inl ⟨hw, fun w hC => ?_⟩, h2⟩
    have h3 := h1 w hC
    unfold Oper.quietAt at h3
    cases hx : (execOp a.eval o).run P w with
    | ok n w' =>
      obtain ⟨u, rfl⟩ := isRead_value hr hx
      rw [hx] at h3
      simp only [Oper.quietUpon] at h3
      rw [h3.1, h3.2]
    | halt x w' => rw [hx] at h3; simp only [Oper.quietUpon] at h3
  · rename_i hw
    exact ⟨undef, .inr ⟨by simpa using hw, rfl⟩, h⟩
theorem anyC_plan (hsel : Region.noSelect ops = true) : ∀ (p : List (Bool × Nat)) (q : List (Bool × Oper)) (listed : Array Bool) (a : Act) (w : World), p.map (fun x => (x.1, ops[x.2]?)) = q.map (fun x => (x.1, some x.2)) →
    planB md ops p listed = true → C w → wpPlan P ops C Q q a w → anyC P md ops C Q p.length listed a w
  | [], q, listed, a, w, hq, hB, hC, h => by
    cases q with
    | nil => exact ⟨by simpa [planB] using hB, h⟩
    | cons _ _ => simp at hq
  | (b, i) :: p, q, listed, a, w, hq, hB, hC, h => by
    cases q with
    | nil => simp at hq
    | cons x q =>
      obtain ⟨b', o⟩ := x
      simp only [List.map_cons, List.cons.injEq, Prod.mk.injEq] at hq
      obtain ⟨⟨rfl, hi⟩, hq⟩ := hq
      cases b with
      | true =>
        simp only [planB, Bool.and_eq_true, hi] at hB
        obtain ⟨⟨⟨h1, h2⟩, h3⟩, h4⟩ := hB
        obtain ⟨v, hy, hK⟩ := reads_of_quiet h3 h ⟨w, hC⟩
        exact anyC_first hi (Region.noSelect_spec hsel) p.length listed a w hC (Region.free_spec hi h2) (by simpa using h1) hy (anyC_plan hsel p q _ _ w hq h4 hC hK)
      | false =>
        simp only [planB, Bool.and_eq_true, decide_eq_true_eq] at hB
        obtain ⟨⟨h1, _⟩, h4⟩ := hB
        refine ⟨fun h0 => (by rw [h1] at h0; cases h0), fun j hj => ?_⟩
        rw [h1] at hj
        have : j = i := by simpa using hj
        subst this
        exact ⟨o, hi, opWp_mono (fun a' w' h' => ⟨h'.1, anyC_plan hsel p q _ _ w' hq h4 h'.1 h'.2⟩) h⟩
theorem wp_region_plan {id : Nat} {a : Act} {w : World} {l : List Oper} (p : List (Bool × Nat)) (hm : P.follows .mixedOrders = true) (hB : (Region.noSelect l.toArray && decide (p.length = l.length) && planB .any l.toArray p (Array.replicate l.length false)) = true)
    (C : World → Prop) (hC : C w.drew) (q : List (Bool × Oper)) (hq : p.map (fun x => (x.1, l.toArray[x.2]?)) = q.map (fun x => (x.1, some x.2)))
    (h : wpPlan P l.toArray C Q q a w.drew) : (Code.region id l.toArray true).wp P Q a w := by
  simp only [Bool.and_eq_true, decide_eq_true_eq] at hB
  obtain ⟨⟨h1, h2⟩, h3⟩ := hB
  refine wp_region_any hm (wpAny_of_anyC (C := C) _ _ _ _ ?_)
  have := anyC_plan (C := C) (Q := Q) (md := .any) h1 p q (Array.replicate l.length false) a w.drew hq h3 hC h
  rw [h2] at this
  simpa using this
/-- A call within a plan. -/
theorem plan_call {o : Oper} {a : Act} {w : World} {K : Act → World → Prop} {x : Operand} {xs : Array Operand} {tys : Array TypeId} {F : Nat} {caps args : Array Value} (hg : o.guard = none) (ho : o.op = .call { callee := .value x, args := xs, argTypes := tys })
    (hx : a.eval x = .func (.func F) #[] caps) (hargs : xs.map a.eval = args) (hF : ∀ args w, (callFunc F args).run P w = .ok (.enter F args) w)
    (h : Calls P F (args ++ caps) w fun e w' => ∃ v, e = .returned v ∧ K (a.put o.dst v) w') : opWp P ops o K a w := by
  subst hargs
  have hr : (execOp a.eval o).run P w = .ok (.enter F (xs.map a.eval ++ caps)) w := by
    simp only [execOp, ho, resolve, hx, Deferred.ofValue, Sem.run_bind, Sem.run_pure, Result.andThen, invoke, Array.empty_append, hF]
  unfold opWp
  rw [if_pos (by simp [Region.wanted, hg]), hr]
  exact h
/-- Any other operation within a plan. -/
theorem plan_run {o : Oper} {a : Act} {w w1 : World} {v : Value} {K : Act → World → Prop} (hg : o.guard = none) (hr : (execOp a.eval o).run P w = .ok (.value v) w1) (h : K (a.put o.dst v) w1) : opWp P ops o K a w := by
  unfold opWp
  rw [if_pos (by simp [Region.wanted, hg]), hr]
  exact h
theorem plan_skip {o : Oper} {a : Act} {w w1 : World} {K : Act → World → Prop} (hg : o.guard = none) (hr : (execOp a.eval o).run P w = .ok .skip w1) (h : K (a.put o.dst undef) w1) : opWp P ops o K a w := by
  unfold opWp
  rw [if_pos (by simp [Region.wanted, hg]), hr]
  exact h
/-- The worlds that come of one. -/
abbrev CU (w0 : World) : World → Prop := fun w' => ∃ y : Up w0, w' = y.u
theorem cu_of {w0 w : World} (h : Ext w0 w) : CU w0 w := ⟨⟨w, h⟩, rfl⟩
def planOf (l : List Oper) (p : List (Bool × Nat)) : List (Bool × Oper) := p.filterMap fun x => match l[x.2]? with | some o => some (x.1, o) | none => none
theorem planOf_eq {l : List Oper} : ∀ {p : List (Bool × Nat)}, (p.all fun x => decide (x.2 < l.length)) = true → p.map (fun x => (x.1, l.toArray[x.2]?)) = (planOf l p).map (fun x => (x.1, some x.2))
  | [], _ => rfl
  | (b, i) :: p, h => by
    simp only [List.all_cons, Bool.and_eq_true, decide_eq_true_eq] at h
    have hi : l[i]? = some l[i] := List.getElem?_eq_getElem h.1
    have ih := planOf_eq (l := l) (p := p) h.2
    simp only [planOf, List.filterMap_cons, hi, List.map_cons, List.getElem?_toArray] at ih ⊢
    rw [ih]
theorem wp_region_planU {id : Nat} {a : Act} {w : World} {l : List Oper} (p : List (Bool × Nat)) (hm : P.follows .mixedOrders = true)
    (hB : (p.all (fun x => decide (x.2 < l.length)) && (Region.noSelect l.toArray && decide (p.length = l.length) && planB .any l.toArray p (Array.replicate l.length false))) = true)
    (h : wpPlan P l.toArray (CU w) Q (planOf l p) a w.drew) : (Code.region id l.toArray true).wp P Q a w := by
  simp only [Bool.and_eq_true] at hB
  exact wp_region_plan p hm (by simp only [Bool.and_eq_true]; exact hB.2) (CU w) (cu_of (Ext.refl w).drew) _ (planOf_eq hB.1) h
theorem wp_region_planE {id : Nat} {a : Act} {w w0 : World} {l : List Oper} (he : Ext w0 w) (p : List (Bool × Nat)) (hm : P.follows .mixedOrders = true)
    (hB : (p.all (fun x => decide (x.2 < l.length)) && (Region.noSelect l.toArray && decide (p.length = l.length) && planB .any l.toArray p (Array.replicate l.length false))) = true)
    (h : wpPlan P l.toArray (CU w0) Q (planOf l p) a w.drew) : (Code.region id l.toArray true).wp P Q a w := by
  simp only [Bool.and_eq_true] at hB
  exact wp_region_plan p hm (by simp only [Bool.and_eq_true]; exact hB.2) (CU w0) (cu_of he.drew) _ (planOf_eq hB.1) h
theorem plan_read {o : Oper} {q : List (Bool × Oper)} {a : Act} {w : World} (h : wpQuiet P ops C (fun a' => wpPlan P ops C Q q a' w) [o] a) : wpPlan P ops C Q ((true, o) :: q) a w := h
theorem plan_end {a : Act} {w : World} (h : Q .normal a w) : wpPlan P ops C Q [] a w := h
theorem plan_enter {w0 : World} {q : List (Bool × Oper)} {a : Act} {w : World} {d : Option Tmp} {ty : TypeId} {pos : String} {af : Array Edge} {x : Operand} {xs : List Operand} {tys : Array TypeId} {F : Nat} {caps : List Value}
    (hx : a.eval x = .func (.func F) #[] caps.toArray) (hF : ∀ args w, (callFunc F args).run P w = .ok (.enter F args) w) (he : Ext w0 w)
    (h : Calls P F (xs.map a.eval ++ caps).toArray w fun e w' => ∃ v, e = .returned v ∧ Ext w w' ∧ wpPlan P ops (CU w0) Q q (a.put d v) w') :
    wpPlan P ops (CU w0) Q ((false, { dst := d, op := .call { callee := .value x, args := xs.toArray, argTypes := tys }, type := ty, pos := pos, after := af, guard := none }) :: q) a w :=
  plan_call (o := { dst := d, op := .call { callee := .value x, args := xs.toArray, argTypes := tys }, type := ty, pos := pos, after := af, guard := none }) (args := (xs.map a.eval).toArray) (caps := caps.toArray) rfl rfl hx (by simp) hF
    (by rw [List.append_toArray]; exact h.mono fun e w' ⟨v, h1, h2, h3⟩ => ⟨v, h1, cu_of (he.trans h2), h3⟩)
theorem plan_value {w0 : World} {q : List (Bool × Oper)} {a : Act} {w w1 : World} {o : Oper} {v : Value} (hg : o.guard = none) (hr : (execOp a.eval o).run P w = .ok (.value v) w1) (he : Ext w0 w1)
    (h : wpPlan P ops (CU w0) Q q (a.put o.dst v) w1) : wpPlan P ops (CU w0) Q ((false, o) :: q) a w :=
  plan_run hg hr ⟨cu_of he, h⟩
/-- An operation that yields a value or nothing. -/
def isPlain (o : Oper) : Bool :=
  match o.op with
  | .alloc _ | .box .. | .store .. | .buildSlice .. | .build .. | .makeFunc .. | .makeMap .. | .makeSlice .. | .mapUpdate .. => true
  | .call c => match c.callee with | .builtin .append => true | _ => false
  | _ => isRead o
theorem run_u {s : Sem Unit} {w w' : World} {n : Next} (h : (do s; pure Next.skip : Sem Next).run P w = .ok n w') : n = .skip := by
  rw [Sem.run_bind] at h
  cases hs : s.run P w with
  | ok v w1 => rw [hs] at h; simp only [Result.andThen, Sem.run_pure] at h; cases h; rfl
  | halt x w1 => rw [hs] at h; cases h
theorem isPlain_out {o : Oper} (h : isPlain o = true) {r : Operand → Value} {w w' : World} {n : Next} (hr : (execOp r o).run P w = .ok n w') : (∃ u, n = .value u) ∨ n = .skip := by
  obtain ⟨d, op, ty, pos, af, gd⟩ := o
  cases op <;> simp only [isPlain] at h
  case alloc => exact .inl (run_v hr)
  case box => exact .inl (run_v hr)
  case buildSlice => exact .inl (run_v hr)
  case build => exact .inl (run_v hr)
  case makeFunc => exact .inl (run_v hr)
  case makeMap => exact .inl (run_v hr)
  case makeSlice => exact .inl (run_v hr)
  case store => exact .inr (run_u hr)
  case mapUpdate => exact .inr (run_u hr)
  case call c =>
    obtain ⟨cal, args, tys⟩ := c
    cases cal with
    | builtin b =>
      cases b <;> simp only [Bool.false_eq_true] at h
      all_goals
        simp only [execOp, resolve, Sem.run_bind, Sem.run_pure, Result.andThen, invoke] at hr
        exact .inl (run_v hr)
    | _ => simp at h
  all_goals first | exact .inl (isRead_value h hr) | (simp [isRead] at h)
/-- What is asked at the normal end alone. -/
def QN (K : Act → World → Prop) : Exit → Act → World → Prop
  | .normal, a, w => K a w
  | _, _, _ => False
theorem opWp_of_list {o : Oper} {rest : List Oper} {K : Act → World → Prop} {a : Act} {w : World} (hp : isPlain o = true) (h : wpList P ops (QN K) (o :: rest) a w) :
    opWp P ops o (fun a' w' => (∃ n, (execOp a.eval o).run P w = .ok n w' ∨ w' = w) ∧ wpList P ops (QN K) rest a' w') a w := by
  unfold wpList at h
  unfold opWp
  split
  · rename_i hw
    rw [if_pos hw] at h
    rcases h with h | ⟨_, _, _, h⟩
    · unfold Oper.wp at h
      cases hx : (execOp a.eval o).run P w with
      | ok n w' =>
        rw [hx] at h
        rcases isPlain_out hp hx with ⟨u, rfl⟩ | rfl
        · exact ⟨⟨_, .inl rfl⟩, h⟩
        · exact ⟨⟨_, .inl rfl⟩, h⟩
      | halt x w' =>
        rw [hx] at h
        cases x <;> simp only [Oper.upon, QN] at h
    · exact h.elim
  · rename_i hw
    rw [if_neg hw] at h
    exact ⟨⟨.skip, .inr rfl⟩, h⟩
/-- One operation, by a law on lists. -/
theorem plan_one {w0 : World} {q : List (Bool × Oper)} {a : Act} {w : World} {o : Oper} (hp : isPlain o = true)
    (h : wpList P ops (QN fun a' w' => Ext w0 w' ∧ wpPlan P ops (CU w0) Q q a' w') [o] a w) : wpPlan P ops (CU w0) Q ((false, o) :: q) a w :=
  opWp_mono (fun a' w' h => ⟨cu_of h.2.1, h.2.2⟩) (opWp_of_list hp h)
/-- Two operations, by a law on lists. -/
theorem plan_pair {w0 : World} {q : List (Bool × Oper)} {a : Act} {w : World} {o1 o2 : Oper} (hp1 : isPlain o1 = true) (hp2 : isPlain o2 = true) (he : Ext w0 w)
    (hC : ∀ n w1, (execOp a.eval o1).run P w = .ok n w1 → Ext w w1)
    (h : wpList P ops (QN fun a' w' => Ext w0 w' ∧ wpPlan P ops (CU w0) Q q a' w') [o1, o2] a w) : wpPlan P ops (CU w0) Q ((false, o1) :: (false, o2) :: q) a w :=
  opWp_mono (fun a' w' ⟨⟨n, h1⟩, h2⟩ => ⟨by
    rcases h1 with h1 | rfl
    · exact cu_of (he.trans (hC n w' h1))
    · exact cu_of he, plan_one hp2 h2⟩) (opWp_of_list hp1 h)
theorem alloc_ext {r : Operand → Value} {d : Option Tmp} {t ty : TypeId} {pos : String} {af : Array Edge} {gd : Option (Nat × Bool)} {z : Value} (hz : (P.info? t).map (fun i => i.zero) = some (some z)) {w w1 : World} {n : Next}
    (h : (execOp r { dst := d, op := .alloc t, type := ty, pos := pos, after := af, guard := gd }).run P w = .ok n w1) : Ext w w1 := by
  obtain ⟨i, hi, hzz⟩ := Option.map_eq_some_iff.1 hz
  have : (execOp r { dst := d, op := .alloc t, type := ty, pos := pos, after := af, guard := gd }).run P w = .ok (.value (.pointer (some ⟨w.heap.size, 0, none⟩))) (w.alloc (.cells z.cells t)) := by
    simp [execOp, Instr.alloc, zeroValue, typeInfo, hi, hzz, go_sem]
  rw [this] at h
  cases h
  exact (Ext.refl w).alloc _
theorem lit_ext {r : Operand → Value} {d : Option Tmp} {t ty e : TypeId} {x : Operand} {y : Value} {pos : String} {af : Array Edge} {gd : Option (Nat × Bool)} (hx : r x = y)
    (hbs : ∀ w, (Instr.buildSlice t 1 #[(0, y)]).run P w = .ok (.slice (some ⟨w.heap.size, 0, none⟩) 1 1) (w.alloc (.cells y.cells e))) {w w1 : World} {n : Next}
    (h : (execOp r { dst := d, op := .buildSlice t 1 #[(0, x)], type := ty, pos := pos, after := af, guard := gd }).run P w = .ok n w1) : Ext w w1 := by
  simp only [execOp, List.map_toArray, List.map_cons, List.map_nil, hx, Sem.run_bind, hbs, Result.andThen, Sem.run_pure] at h
  cases h
  exact (Ext.refl w).alloc _
end
end Go.Proofs.YtgibdafkidkahaaGreatDoor
