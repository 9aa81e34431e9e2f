/- Derived: the vocabulary of the walks: what is read, what is made, and steps that change memory. -/
import Derived.Test.YtgibdafkidkahaaGreatDoorProg
import Derived.Test.YtgibdafkidkahaaGreatDoorModel
import Derived.Below
import Derived.Deep.Draws
import Derived.Maps.AppendAt
import Derived.OwnWalk
import Derived.WalkKit
import Derived.KernelRfl
import Derived.RowKit3
import Derived.Deep.LoopGhost
import Derived.Deep.QuietTactic
import Derived.BigQuiet
import Derived.Lib.Hide
import Derived.Maps.RangeWalk
import Derived.Deep.OwnRows
set_option linter.unusedVariables false
set_option linter.unusedSimpArgs false
namespace Go.Proofs.YtgibdafkidkahaaGreatDoor
open Go.RowKit

theorem ret_int {k : IntKind} {a b : Int} (h : a = b) : Ending.returned (.int k a) = .returned (.int k b) := by rw [h]
theorem ret_bool {a b : Bool} (h : a = b) : Ending.returned (.bool a) = .returned (.bool b) := by rw [h]

/-! ### worlds -/
/-- Nothing that was there has turned. -/
abbrev Ext (w w' : World) : Prop := Below w.heap.size w w'
theorem Ext.refl (w : World) : Ext w w := Below.refl _ _
theorem Ext.trans {a b c : World} (h : Ext a b) (k : Ext b c) : Ext a c := Below.trans h (Below.mono k h.size)
theorem Ext.drewN {a b : World} (h : Ext a b) (n : Nat) : Ext a (b.drewN n) := ⟨h.os, h.tape, h.output, h.size, h.block⟩
theorem Ext.alloc {a b : World} (h : Ext a b) (o : Obj) : Ext a (b.alloc o) := Below.alloc h h.size o
theorem Ext.drew {a b : World} (h : Ext a b) : Ext a b.drew := Below.drew h
theorem Ext.cell {a b : World} (h : Ext a b) {p : Addr} {v : Value} (hc : a.cell? p = some v) : b.cell? p = some v := (Below.cell h (World.block_lt_of_cell? a p hc)).trans hc
theorem Ext.blk {a b : World} (h : Ext a b) {g : Nat} {o : Obj} (hc : a.heap[g]? = some o) : b.heap[g]? = some o := (h.block g (Array.getElem?_eq_some_iff.1 hc).1).trans hc
theorem blk_lt {w : World} {g : Nat} {o : Obj} (h : w.heap[g]? = some o) : g < w.heap.size := (Array.getElem?_eq_some_iff.1 h).1
theorem blk_cell {w : World} {g : Nat} {t : TypeId} {cs : Array Value} (h : w.heap[g]? = some (.cells cs t (0, 0))) (i : Nat) : w.cell? ⟨g, i, none⟩ = cs[i]? := cell_of_row w g i cs t (0, 0) h
theorem blk_frozen {w : World} {g : Nat} {t : TypeId} {cs : Array Value} (h : w.heap[g]? = some (.cells cs t (0, 0))) (i : Nat) : w.frozen? ⟨g, i, none⟩ = false := by simp [World.frozen?, h]
theorem blk_new (w : World) (o : Obj) : (w.alloc o).heap[w.heap.size]? = some o := heap_alloc_new w o
theorem blk_set {w : World} {g : Nat} {t : TypeId} {cs : Array Value} (h : w.heap[g]? = some (.cells cs t (0, 0))) (i : Nat) (u : Value) : (w.setCell ⟨g, i, none⟩ u).heap[g]? = some (.cells (cs.setIfInBounds i u) t (0, 0)) := by
  simp [World.setCell, Array.getElem?_modify, h]

/-- Where a walk is to stand still. -/
def Stop (p : Prop) : Prop := p
theorem Stop.go {p : Prop} (h : p) : Stop p := h
section
variable {P : Program} {ops : Array Oper} {rest : List Oper} {a : Act} {Q : Exit → Act → World → Prop} {w : World}
theorem stop_lit {d : Option Tmp} {t n ty : Nat} {ps : Array (Nat × Operand)} {pos : String} {af : Array Edge} {gd : Option (Nat × Bool)}
    (h : Stop (wpList P ops Q ({ dst := d, op := .buildSlice t n ps, type := ty, pos := pos, after := af, guard := gd } :: rest) a w)) :
    wpList P ops Q ({ dst := d, op := .buildSlice t n ps, type := ty, pos := pos, after := af, guard := gd } :: rest) a w := h
theorem stop_call {d : Option Tmp} {ty : Nat} {c : Call} {pos : String} {af : Array Edge} {gd : Option (Nat × Bool)}
    (h : Stop (wpList P ops Q ({ dst := d, op := .call c, type := ty, pos := pos, after := af, guard := gd } :: rest) a w)) :
    wpList P ops Q ({ dst := d, op := .call c, type := ty, pos := pos, after := af, guard := gd } :: rest) a w := h
theorem stop_app {d : Option Tmp} {ty : Nat} {xs : Array Operand} {ts : Array TypeId} {pos : String} {af : Array Edge} {gd : Option (Nat × Bool)}
    (h : Stop (wpList P ops Q ({ dst := d, op := .call { callee := .builtin .append, args := xs, argTypes := ts }, type := ty, pos := pos, after := af, guard := gd } :: rest) a w)) :
    wpList P ops Q ({ dst := d, op := .call { callee := .builtin .append, args := xs, argTypes := ts }, type := ty, pos := pos, after := af, guard := gd } :: rest) a w := h
theorem stop_box {d : Option Tmp} {t ty : Nat} {x : Operand} {pos : String} {af : Array Edge} {gd : Option (Nat × Bool)}
    (h : Stop (wpList P ops Q ({ dst := d, op := .box t x, type := ty, pos := pos, after := af, guard := gd } :: rest) a w)) :
    wpList P ops Q ({ dst := d, op := .box t x, type := ty, pos := pos, after := af, guard := gd } :: rest) a w := h
theorem stop_alloc {d : Option Tmp} {t ty : Nat} {pos : String} {af : Array Edge} {gd : Option (Nat × Bool)}
    (h : Stop (wpList P ops Q ({ dst := d, op := .alloc t, type := ty, pos := pos, after := af, guard := gd } :: rest) a w)) :
    wpList P ops Q ({ dst := d, op := .alloc t, type := ty, pos := pos, after := af, guard := gd } :: rest) a w := h
theorem stop_store {d : Option Tmp} {t ty : Nat} {p x : Operand} {pos : String} {af : Array Edge} {gd : Option (Nat × Bool)}
    (h : Stop (wpList P ops Q ({ dst := d, op := .store t p x, type := ty, pos := pos, after := af, guard := gd } :: rest) a w)) :
    wpList P ops Q ({ dst := d, op := .store t p x, type := ty, pos := pos, after := af, guard := gd } :: rest) a w := h
theorem stop_lookup {d : Option Tmp} {t ty : Nat} {p x : Operand} {ok : Bool} {pos : String} {af : Array Edge} {gd : Option (Nat × Bool)}
    (h : Stop (wpList P ops Q ({ dst := d, op := .lookup t p x ok, type := ty, pos := pos, after := af, guard := gd } :: rest) a w)) :
    wpList P ops Q ({ dst := d, op := .lookup t p x ok, type := ty, pos := pos, after := af, guard := gd } :: rest) a w := h
theorem stop_mapUpdate {d : Option Tmp} {t ty : Nat} {p x y : Operand} {pos : String} {af : Array Edge} {gd : Option (Nat × Bool)}
    (h : Stop (wpList P ops Q ({ dst := d, op := .mapUpdate t p x y, type := ty, pos := pos, after := af, guard := gd } :: rest) a w)) :
    wpList P ops Q ({ dst := d, op := .mapUpdate t p x y, type := ty, pos := pos, after := af, guard := gd } :: rest) a w := h
theorem stop_makeMap {d : Option Tmp} {t ty : Nat} {r : Option Operand} {pos : String} {af : Array Edge} {gd : Option (Nat × Bool)}
    (h : Stop (wpList P ops Q ({ dst := d, op := .makeMap t r, type := ty, pos := pos, after := af, guard := gd } :: rest) a w)) :
    wpList P ops Q ({ dst := d, op := .makeMap t r, type := ty, pos := pos, after := af, guard := gd } :: rest) a w := h
end

/-! ### steps that change memory: the world behind them is a new letter -/
section
variable {P : Program} {ops : Array Oper} {rest : List Oper} {a : Act} {Q : Exit → Act → World → Prop} {w : World}
theorem wp_run {o : Oper} {v : Value} {w1 : World} (hg : o.guard = none) (hr : (execOp a.eval o).run P w = .ok (.value v) w1) (h : wpList P ops Q rest (a.put o.dst v) w1) : wpList P ops Q (o :: rest) a w := by
  refine wpList_plain hg fun K hK => ?_
  unfold Oper.wp
  rw [hr]
  exact hK _ _ h
/-- A variable in memory that begins with a value. -/
theorem ev_box {d : Option Tmp} {t ty : TypeId} {x : Operand} {pos : String} {af : Array Edge} (cs : Array Value) (hcs : (a.eval x).cells = cs)
    (h : ∀ g w1, w1.heap[g]? = some (.cells cs t (0, 0)) → Ext w w1 → w.heap.size ≤ g → wpList P ops Q rest (a.put d (.pointer (some ⟨g, 0, none⟩))) w1) :
    wpList P ops Q ({ dst := d, op := .box t x, type := ty, pos := pos, after := af, guard := none } :: rest) a w := by
  subst hcs
  exact wp_run rfl rfl (h _ _ (blk_new w _) ((Ext.refl w).alloc _) (Nat.le_refl _))
/-- The same, its cells told one by one. -/
theorem ev_boxv {d : Option Tmp} {t ty : TypeId} {x : Operand} {pos : String} {af : Array Edge} {v : Value} (hx : a.eval x = v) (hv : v.cells = #[v])
    (h : ∀ g w1, w1.heap[g]? = some (.cells #[v] t (0, 0)) → Ext w w1 → w.heap.size ≤ g → w1.cell? ⟨g, 0, none⟩ = some v → wpList P ops Q rest (a.put d (.pointer (some ⟨g, 0, none⟩))) w1) :
    wpList P ops Q ({ dst := d, op := .box t x, type := ty, pos := pos, after := af, guard := none } :: rest) a w :=
  ev_box _ (by rw [hx, hv]) fun g w1 hb he hg => h g w1 hb he hg (blk_cell hb 0)
theorem ev_boxS {d : Option Tmp} {t ty : TypeId} {x : Operand} {pos : String} {af : Array Edge} {s : ByteArray} (hx : a.eval x = .string s)
    (h : ∀ g w1, w1.heap[g]? = some (.cells #[.string s] t (0, 0)) → Ext w w1 → w.heap.size ≤ g → w1.cell? ⟨g, 0, none⟩ = some (.string s) → wpList P ops Q rest (a.put d (.pointer (some ⟨g, 0, none⟩))) w1) :
    wpList P ops Q ({ dst := d, op := .box t x, type := ty, pos := pos, after := af, guard := none } :: rest) a w := ev_boxv hx rfl h
theorem ev_boxL {d : Option Tmp} {t ty : TypeId} {x : Operand} {pos : String} {af : Array Edge} {A : Option Addr} {n c : Nat} (hx : a.eval x = .slice A n c)
    (h : ∀ g w1, w1.heap[g]? = some (.cells #[.slice A n c] t (0, 0)) → Ext w w1 → w.heap.size ≤ g → w1.cell? ⟨g, 0, none⟩ = some (.slice A n c) → wpList P ops Q rest (a.put d (.pointer (some ⟨g, 0, none⟩))) w1) :
    wpList P ops Q ({ dst := d, op := .box t x, type := ty, pos := pos, after := af, guard := none } :: rest) a w := ev_boxv hx rfl h
theorem ev_boxI {d : Option Tmp} {t ty : TypeId} {x : Operand} {pos : String} {af : Array Edge} {k : IntKind} {n : Int} (hx : a.eval x = .int k n)
    (h : ∀ g w1, w1.heap[g]? = some (.cells #[.int k n] t (0, 0)) → Ext w w1 → w.heap.size ≤ g → w1.cell? ⟨g, 0, none⟩ = some (.int k n) → wpList P ops Q rest (a.put d (.pointer (some ⟨g, 0, none⟩))) w1) :
    wpList P ops Q ({ dst := d, op := .box t x, type := ty, pos := pos, after := af, guard := none } :: rest) a w := ev_boxv hx rfl h
theorem ev_box2 {d : Option Tmp} {t ty : TypeId} {x : Operand} {pos : String} {af : Array Edge} {c0 c1 : Value} (hx : a.eval x = .agg #[c0, c1])
    (h : ∀ g w1, w1.heap[g]? = some (.cells #[c0, c1] t (0, 0)) → Ext w w1 → w.heap.size ≤ g → w1.cell? ⟨g, 0, none⟩ = some c0 → w1.cell? ⟨g, 1, none⟩ = some c1 → wpList P ops Q rest (a.put d (.pointer (some ⟨g, 0, none⟩))) w1) :
    wpList P ops Q ({ dst := d, op := .box t x, type := ty, pos := pos, after := af, guard := none } :: rest) a w :=
  ev_box _ (by rw [hx]; rfl) fun g w1 hb he hg => h g w1 hb he hg (blk_cell hb 0) (blk_cell hb 1)
theorem ev_box3 {d : Option Tmp} {t ty : TypeId} {x : Operand} {pos : String} {af : Array Edge} {c0 c1 c2 : Value} (hx : a.eval x = .agg #[c0, c1, c2])
    (h : ∀ g w1, w1.heap[g]? = some (.cells #[c0, c1, c2] t (0, 0)) → Ext w w1 → w.heap.size ≤ g → w1.cell? ⟨g, 0, none⟩ = some c0 → w1.cell? ⟨g, 1, none⟩ = some c1 → w1.cell? ⟨g, 2, none⟩ = some c2 → wpList P ops Q rest (a.put d (.pointer (some ⟨g, 0, none⟩))) w1) :
    wpList P ops Q ({ dst := d, op := .box t x, type := ty, pos := pos, after := af, guard := none } :: rest) a w :=
  ev_box _ (by rw [hx]; rfl) fun g w1 hb he hg => h g w1 hb he hg (blk_cell hb 0) (blk_cell hb 1) (blk_cell hb 2)
/-- .. with the zero value. -/
theorem ev_alloc {d : Option Tmp} {t ty : TypeId} {pos : String} {af : Array Edge} (z : Value) (hz : (P.info? t).map (fun i => i.zero) = some (some z))
    (h : ∀ g w1, w1.heap[g]? = some (.cells z.cells t (0, 0)) → Ext w w1 → w.heap.size ≤ g → wpList P ops Q rest (a.put d (.pointer (some ⟨g, 0, none⟩))) w1) :
    wpList P ops Q ({ dst := d, op := .alloc t, type := ty, pos := pos, after := af, guard := none } :: rest) a w := by
  obtain ⟨i, hi, hzz⟩ := Option.map_eq_some_iff.1 hz
  refine wp_run (v := .pointer (some ⟨w.heap.size, 0, none⟩)) (w1 := w.alloc (.cells z.cells t)) rfl ?_ (h _ _ (blk_new w _) ((Ext.refl w).alloc _) (Nat.le_refl _))
  simp [execOp, Instr.alloc, zeroValue, typeInfo, hi, hzz, go_sem]
end

/-- One block alone may have turned. -/
structure Turned (g : Nat) (w w' : World) : Prop where
  os : w'.os = w.os
  tape : w'.tape = w.tape
  output : w'.output = w.output
  size : w'.heap.size = w.heap.size
  block : ∀ k, k ≠ g → w'.heap[k]? = w.heap[k]?
theorem Turned.ext {g : Nat} {w0 w w' : World} (h : Turned g w w') (he : Ext w0 w) (hg : w0.heap.size ≤ g) : Ext w0 w' :=
  ⟨h.os.trans he.os, h.tape.trans he.tape, h.output.trans he.output, by rw [h.size]; exact he.size, fun k hk => (h.block k (by omega)).trans (he.block k hk)⟩
theorem Turned.trans {g : Nat} {a b c : World} (h : Turned g a b) (k : Turned g b c) : Turned g a c :=
  ⟨k.os.trans h.os, k.tape.trans h.tape, k.output.trans h.output, k.size.trans h.size, fun i hi => (k.block i hi).trans (h.block i hi)⟩
theorem Turned.setCell (w : World) (g i : Nat) (v : Value) : Turned g w (w.setCell ⟨g, i, none⟩ v) :=
  ⟨rfl, rfl, rfl, by simp [World.setCell], fun k hk => Below.heap_setCell w ⟨g, i, none⟩ v k hk⟩
theorem Turned.cell {g : Nat} {w w' : World} (h : Turned g w w') {p : Addr} (hp : p.block ≠ g) : w'.cell? p = w.cell? p := World.cell?_of_block (h.block _ hp)
theorem add_zero' (ad : Addr) : ad.add 0 = ad := by unfold Addr.add; simp
theorem add_plain (g j : Nat) : (⟨g, 0, none⟩ : Addr).add j = ⟨g, j, none⟩ := by unfold Addr.add; split <;> simp_all
theorem take_set_snoc {α : Type} (l : List α) (i : Nat) (v : α) (h : i < l.length) : (l.set i v).take (i + 1) = l.take i ++ [v] := by
  rw [List.take_succ_eq_append_getElem (by simpa using h)]
  simp [List.take_set_of_le]
theorem run_storeCells {P : Program} {g : Nat} {t : TypeId} : ∀ (vs : List Value) (i : Nat) (w : World) (cs : Array Value), w.heap[g]? = some (.cells cs t (0, 0)) → cs.size = i + vs.length → (∀ v ∈ vs, v.oneCell' = true) →
    ∃ w', (storeCells ⟨g, 0, none⟩ vs i).run P w = .ok () w' ∧ w'.heap[g]? = some (.cells (cs.toList.take i ++ vs).toArray t (0, 0)) ∧ Turned g w w'
  | [], i, w, cs, hb, hi, h1 => ⟨w, by simp [storeCells, Sem.run_pure], by rw [List.take_of_length_le (by simp at hi ⊢; omega)]; simpa using hb, ⟨rfl, rfl, rfl, rfl, fun _ _ => rfl⟩⟩
  | v :: vs, i, w, cs, hb, hi, h1 => by
    have hi' : i < cs.size := by simp at hi; omega
    have hc : w.cell? ⟨g, i, none⟩ = some cs[i] := by rw [blk_cell hb]; exact Array.getElem?_eq_getElem hi'
    have hv := h1 v List.mem_cons_self
    have hb' := blk_set hb i v
    obtain ⟨w', hr, h2, h3⟩ := run_storeCells (P := P) vs (i + 1) _ _ hb' (by simp at hi ⊢; omega) (fun u hu => h1 u (List.mem_cons_of_mem _ hu))
    refine ⟨w', ?_, ?_, (Turned.setCell w g i v).trans h3⟩
    · rw [storeCells, add_plain]
      simp only [Sem.run_bind, run_store P w _ v .plain hv, hc, blk_frozen hb]
      exact hr
    · rw [h2, Array.toList_setIfInBounds, take_set_snoc _ _ _ (by simpa using hi'), List.append_assoc]
      rfl
section
variable {P : Program} {ops : Array Oper} {rest : List Oper} {a : Act} {Q : Exit → Act → World → Prop} {w : World}
/-- A store over a whole variable of the call's own. -/
theorem ev_store {t ty : TypeId} {p x : Operand} {pos : String} {af : Array Edge} {g : Nat} {cs : Array Value} {t' : TypeId} {v : Value} (ha : a.eval p = .pointer (some ⟨g, 0, none⟩)) (hx : a.eval x = v) (hb : w.heap[g]? = some (.cells cs t' (0, 0)))
    (hsz : (P.info? t).map (fun i => i.size) = some v.cells.size) (hcs : cs.size = v.cells.size) (h1 : ∀ u ∈ v.cells.toList, u.oneCell' = true)
    (h : ∀ w1, w1.heap[g]? = some (.cells v.cells t' (0, 0)) → Turned g w w1 → wpList P ops Q rest a w1) :
    wpList P ops Q ({ dst := none, op := .store t p x, type := ty, pos := pos, after := af, guard := none } :: rest) a w := by
  obtain ⟨i, hi, hsz⟩ := Option.map_eq_some_iff.1 hsz
  obtain ⟨w', hr, h2, h3⟩ := run_storeCells (P := P) v.cells.toList 0 w cs hb (by simpa using hcs) h1
  refine wpList_plain rfl fun K hK => ?_
  unfold Oper.wp
  have : (execOp a.eval { dst := none, op := .store t p x, type := ty, pos := pos, after := af, guard := none }).run P w = .ok .skip w' := by
    simp [execOp, ha, hx, Instr.storeAt, Instr.sureAddr, storeVar, sizeOf, typeInfo, program, Sem.run_bind, Sem.run_pure, Result.andThen_ok, Sem.run, hi, hsz, hr]
  rw [this]
  exact hK _ _ (h w' (by simpa using h2) h3)
end
section
variable {P : Program} {ops : Array Oper} {rest : List Oper} {a : Act} {Q : Exit → Act → World → Prop} {w : World}
/-- A loop's own variable: laid, and filled with an element. -/
theorem ev_var {d : Tmp} {t t1 t2 : TypeId} {x : Operand} {p1 p2 : String} {f1 f2 : Array Edge} {v : Value} (z : Value) (hz : (P.info? t).map (fun i => (i.zero, i.size)) = some (some z, z.cells.size))
    (hd : ∀ u, (a.put (some d) u).eval (.tmp d) = u) (hx : ∀ u, (a.put (some d) u).eval x = v) (hs : z.cells.size = v.cells.size) (h1 : ∀ u ∈ v.cells.toList, u.oneCell' = true)
    (h : ∀ g w1, w1.heap[g]? = some (.cells v.cells t (0, 0)) → Ext w w1 → w.heap.size ≤ g → wpList P ops Q rest (a.put (some d) (.pointer (some ⟨g, 0, none⟩))) w1) :
    wpList P ops Q ({ dst := some d, op := .alloc t, type := t1, pos := p1, after := f1, guard := none } :: { dst := none, op := .store t (.tmp d) x, type := t2, pos := p2, after := f2, guard := none } :: rest) a w := by
  obtain ⟨i, hi, hzz⟩ := Option.map_eq_some_iff.1 hz
  simp only [Prod.mk.injEq] at hzz
  refine ev_alloc z (by rw [hi, Option.map_some, hzz.1]) fun g w1 hb he hg => ?_
  refine ev_store (hd _) (hx _) hb (by rw [hi, Option.map_some, hzz.2, hs]) hs h1 fun w2 hb2 ht => ?_
  exact h g w2 hb2 (ht.ext he hg) hg
theorem ev_vari {d s : Tmp} {t t1 t2 t3 : TypeId} {x y : Operand} {p1 p2 p3 : String} {f1 f2 f3 : Array Edge} {v : Value} (z : Value) (hz : (P.info? t).map (fun i => (i.zero, i.size)) = some (some z, z.cells.size))
    (hd : ∀ u u', ((a.put (some d) u).put (some s) u').eval (.tmp d) = u) (hx : ∀ u u', ((a.put (some d) u).put (some s) u').eval x = v) (hs : z.cells.size = v.cells.size) (h1 : ∀ u ∈ v.cells.toList, u.oneCell' = true)
    (h : ∀ g w1, w1.heap[g]? = some (.cells v.cells t (0, 0)) → Ext w w1 → w.heap.size ≤ g → wpList P ops Q rest ((a.put (some d) (.pointer (some ⟨g, 0, none⟩))).put (some s) ((a.put (some d) (.pointer (some ⟨g, 0, none⟩))).eval y)) w1) :
    wpList P ops Q ({ dst := some d, op := .alloc t, type := t1, pos := p1, after := f1, guard := none } :: { dst := some s, op := .assign y, type := t3, pos := p3, after := f3, guard := none } :: { dst := none, op := .store t (.tmp d) x, type := t2, pos := p2, after := f2, guard := none } :: rest) a w := by
  obtain ⟨i, hi, hzz⟩ := Option.map_eq_some_iff.1 hz
  simp only [Prod.mk.injEq] at hzz
  refine ev_alloc z (by rw [hi, Option.map_some, hzz.1]) fun g w1 hb he hg => ?_
  refine wp_run rfl rfl ?_
  refine ev_store (hd _ _) (hx _ _) hb (by rw [hi, Option.map_some, hzz.2, hs]) hs h1 fun w2 hb2 ht => ?_
  exact h g w2 hb2 (ht.ext he hg) hg
end
theorem one2 {c0 c1 : Value} (h0 : c0.oneCell' = true) (h1 : c1.oneCell' = true) : ∀ u ∈ (Value.agg #[c0, c1]).cells.toList, u.oneCell' = true := by
  intro u hu; simp [Value.cells] at hu; rcases hu with rfl | rfl <;> assumption
theorem one3 {c0 c1 c2 : Value} (h0 : c0.oneCell' = true) (h1 : c1.oneCell' = true) (h2 : c2.oneCell' = true) : ∀ u ∈ (Value.agg #[c0, c1, c2]).cells.toList, u.oneCell' = true := by
  intro u hu; simp [Value.cells] at hu; rcases hu with rfl | rfl | rfl <;> assumption
theorem iInt : (Tryz.prog.info? 3).map (fun i => (i.zero, i.size, i.bytes)) = some (some (.int .i64 0), 1, 8) := by kernel_rfl
theorem iMk : (Tryz.prog.info? 109).map (fun i => (i.zero, i.size, i.bytes)) = some (some (.agg #[.int .i64 0, .int .i64 0]), 2, 16) := by kernel_rfl
theorem iEv : (Tryz.prog.info? 76).map (fun i => (i.zero, i.size, i.bytes)) = some (some (.agg #[.int .u8 0, .string ⟨#[]⟩]), 2, 24) := by kernel_rfl
theorem iMks : (Tryz.prog.info? 67).map (fun i => (i.zero, i.size, i.bytes)) = some (some (.slice none 0 0), 1, 24) := by kernel_rfl
theorem zBr : (Tryz.prog.info? 66).map (fun i => (i.zero, i.size)) = some (some (.agg #[.string ⟨#[]⟩, .string ⟨#[]⟩, .int .i64 0]), 3) := by kernel_rfl
theorem zKn : (Tryz.prog.info? 180).map (fun i => (i.zero, i.size)) = some (some (.agg #[.string ⟨#[]⟩, .int .i64 0]), 2) := by kernel_rfl
theorem zEv : (Tryz.prog.info? 76).map (fun i => (i.zero, i.size)) = some (some (.agg #[.int .u8 0, .string ⟨#[]⟩]), 2) := by kernel_rfl
theorem zMk : (Tryz.prog.info? 109).map (fun i => (i.zero, i.size)) = some (some (.agg #[.int .i64 0, .int .i64 0]), 2) := by kernel_rfl

/-! ### regions that draw their order, whose operations read and whose callees make memory of their own and answer by numbers, bools or strings -/
/-- A world in which nothing that was there has turned. -/
structure Up (w : World) where
  u : World
  ext : Ext w u
instance (w : World) : Nonempty (Up w) := ⟨⟨w, Ext.refl w⟩⟩
section
variable {P : Program}
theorem wp_quietU {id : Nat} {Q : Exit → Act → World → Prop} {a : Act} {w : World} {l : List Oper} (hm : P.follows .mixedOrders = true) (hB : Region.lexB .any l.toArray = true)
    (h : wpQuiet P l.toArray (fun w' => ∃ y : Up w, w' = y.u) (fun a' => ∀ w', (∃ y : Up w, w' = y.u) → Q .normal a' w') l a) : (Code.region id l.toArray true).wp P Q a w :=
  wp_region_quiet (C := fun w' => ∃ y : Up w, w' = y.u) hm hB ⟨⟨_, (Ext.refl w).drew⟩, rfl⟩ (by simpa using h)
theorem quietU {f : FuncId} {args : Array Value} {w : World} {y : Up w} {v : Value}
    (h : Calls P f args y.u fun e w' => e = .returned v ∧ Ext y.u w') : Calls P f args y.u fun e w'' => e = .returned v ∧ ∃ z : Up w, w'' = z.u :=
  h.mono fun _ w2 ⟨he, hm⟩ => ⟨he, ⟨w2, y.ext.trans hm⟩, rfl⟩
theorem quietUs {f : FuncId} {args : Array Value} {w : World} {y : Up w} {v : Value}
    (h : Calls P f args y.u fun e w' => e = .returned v ∧ y.u = w') : Calls P f args y.u fun e w'' => e = .returned v ∧ ∃ z : Up w, w'' = z.u :=
  h.mono fun _ w2 ⟨he, hm⟩ => ⟨he, y, hm.symm⟩
end

/-! ### reading -/
/-- How the elements of a row lie in memory: their cells; 'ok' lets by the blocks of the rows that they lead to. -/
structure El (α : Type) where
  sz : Nat
  K : (Nat → Prop) → World → α → List Value → Prop
  len : ∀ {ok w x cs}, K ok w x cs → cs.length = sz
  one : ∀ {ok w x cs}, K ok w x cs → ∀ u ∈ cs, u.oneCell' = true
  mv : ∀ {ok : Nat → Prop} {w w' : World} {x cs}, (∀ k, k < w.heap.size → ok k → w'.heap[k]? = w.heap[k]?) → K ok w x cs → K ok w' x cs
  mono : ∀ {ok ok' : Nat → Prop} {w : World} {x cs}, (∀ k, ok k → ok' k) → K ok w x cs → K ok' w x cs
  bd : ∀ {ok : Nat → Prop} {w : World} {x cs}, K ok w x cs → K (fun k => ok k ∧ k < w.heap.size) w x cs
variable {α : Type}
theorem El.ext (E : El α) {ok : Nat → Prop} {w w' : World} {x : α} {cs : List Value} (h : Ext w w') (hk : E.K ok w x cs) : E.K ok w' x cs :=
  E.mv (fun k hk _ => h.block k hk) hk
/-- A row of elements that is read. -/
def Rd (E : El α) (w : World) (A : Option Addr) (xs : List α) : Prop :=
  xs.length ≤ 9223372036854775807 ∧ ∀ i x, xs[i]? = some x → ∃ ad cs, A = some ad ∧ (∃ ok, E.K ok w x cs) ∧ ∀ j u, cs[j]? = some u → w.cell? (ad.add (i * E.sz + j)) = some u
theorem Rd.ext {E : El α} {w w' : World} {A : Option Addr} {xs : List α} (h : Rd E w A xs) (he : Ext w w') : Rd E w' A xs :=
  ⟨h.1, fun i x hx => by
    obtain ⟨ad, cs, h1, ⟨B, h2⟩, h3⟩ := h.2 i x hx
    exact ⟨ad, cs, h1, ⟨B, E.ext he h2⟩, fun j u hu => he.cell (h3 j u hu)⟩⟩
theorem Rd.take {E : El α} {w : World} {A : Option Addr} {xs : List α} (h : Rd E w A xs) (n : Nat) : Rd E w A (xs.take n) :=
  ⟨by rw [List.length_take]; exact Nat.le_trans (Nat.min_le_right _ _) h.1, fun i x hx => by
    rw [List.getElem?_take] at hx
    split at hx
    · exact h.2 i x hx
    · cases hx⟩
/-- Two lists, element by element. -/
inductive All2 {β γ : Type} (R : β → γ → Prop) : List β → List γ → Prop where
  | nil : All2 R [] []
  | cons {x y xs ys} : R x y → All2 R xs ys → All2 R (x :: xs) (y :: ys)
theorem All2.imp {β γ : Type} {R R' : β → γ → Prop} (h : ∀ x y, R x y → R' x y) {xs ys} (a : All2 R xs ys) : All2 R' xs ys := by
  induction a with
  | nil => exact .nil
  | cons h1 _ ih => exact .cons (h _ _ h1) ih
theorem All2.snoc {β γ : Type} {R : β → γ → Prop} {xs ys} (a : All2 R xs ys) {x y} (h : R x y) : All2 R (xs ++ [x]) (ys ++ [y]) := by
  induction a with
  | nil => exact .cons h .nil
  | cons h1 _ ih => exact .cons h1 ih
/-- A row that lies in one block whole. -/
theorem Rd.blk {E : El α} {w : World} {g : Nat} {cs : List Value} {t : TypeId} {css : List (List Value)} {xs : List α} (hb : w.heap[g]? = some (.cells cs.toArray t (0, 0))) (hc : cs = css.flatten)
    (hl : xs.length ≤ 9223372036854775807) {ok : Nat → Prop} (hK : All2 (E.K ok w) xs css) : Rd E w (some ⟨g, 0, none⟩) xs := by
  refine ⟨hl, ?_⟩
  subst hc
  suffices h : ∀ (pre : List Value) (m : Nat), pre.length = m * E.sz → w.heap[g]? = some (.cells (pre ++ css.flatten).toArray t (0, 0)) →
      ∀ i x, xs[i]? = some x → ∃ cs, E.K ok w x cs ∧ ∀ j u, cs[j]? = some u → w.cell? ⟨g, (m + i) * E.sz + j, none⟩ = some u by
    intro i x hx
    obtain ⟨cs, h1, h2⟩ := h [] 0 (by simp) (by simpa using hb) i x hx
    refine ⟨⟨g, 0, none⟩, cs, rfl, ⟨ok, h1⟩, fun j u hu => ?_⟩
    rw [add_plain]
    simpa using h2 j u hu
  clear hl hb
  induction hK with
  | nil => intro pre m _ _ i x hx; simp at hx
  | cons hk hks ih =>
    rename_i x0 cs0 xs0 css0
    intro pre m hm hb i x hx
    have hlen := E.len hk
    match i, hx with
    | 0, hx =>
      simp at hx
      subst hx
      refine ⟨cs0, hk, fun j u hu => ?_⟩
      rw [blk_cell hb]
      have hj := (List.getElem?_eq_some_iff.1 hu).1
      simp only [Nat.add_zero, List.flatten_cons, List.getElem?_toArray]
      rw [List.getElem?_append_right (by omega), List.getElem?_append_left (by omega), ← hu]
      congr 1
      omega
    | i + 1, hx =>
      obtain ⟨cs, h1, h2⟩ := ih (pre ++ cs0) (m + 1) (by rw [List.length_append, hm, hlen, Nat.succ_mul]) (by rw [hb]; simp) i x (by simpa using hx)
      refine ⟨cs, h1, fun j u hu => ?_⟩
      rw [← h2 j u hu]
      congr 2
      rw [show m + (i + 1) = m + 1 + i from by omega]
theorem str_nil {s : Str} (h : s = ByteArray.empty) : s.toList = [] := by rw [h, ByteArray.toList_eq]; rfl
theorem str_ne {s : Str} (h : s ≠ ByteArray.empty) : (s.toList == []) = false ∧ s.toList.isEmpty = false := by
  have : s.toList ≠ [] := fun e => h (ba_ext (by rw [e, ByteArray.toList_eq]; rfl))
  exact ⟨by simpa using this, by simpa using this⟩
/-- A slice that is read. -/
def Sl (E : El α) (w : World) (v : Value) (xs : List α) : Prop := ∃ A c, v = .slice A xs.length c ∧ xs.length ≤ c ∧ Rd E w A xs
theorem Sl.ext {E : El α} {w w' : World} {v : Value} {xs : List α} (h : Sl E w v xs) (he : Ext w w') : Sl E w' v xs := by
  obtain ⟨A, c, h1, h2, h3⟩ := h
  exact ⟨A, c, h1, h2, h3.ext he⟩
/-- Elements without rows. -/
def El.flat (sz : Nat) (enc : α → List Value) (h : ∀ x, (enc x).length = sz) (h1 : ∀ x, ∀ u ∈ enc x, u.oneCell' = true) : El α where
  sz := sz
  K := fun _ _ x cs => cs = enc x
  len := fun e => e ▸ h _
  one := fun e => e ▸ h1 _
  mv := fun _ e => e
  mono := fun _ e => e
  bd := fun e => e
theorem add_block (ad : Addr) (n : Nat) : (ad.add n).block = ad.block := by unfold Addr.add; split <;> rfl
/-- Where a row lies. -/
def At (ok : Nat → Prop) (w : World) (A : Option Addr) (n : Nat) : Prop := 0 < n → ∃ ad, A = some ad ∧ ad.block < w.heap.size ∧ ok ad.block
/-- Elements that are slices. -/
def El.sl (d : El α) : El (List α) where
  sz := 1
  K := fun ok w x cs => ∃ A c, cs = [.slice A x.length c] ∧ x.length ≤ c ∧ x.length ≤ 9223372036854775807 ∧ At ok w A x.length ∧ ∀ (i : Nat) (y : α), x[i]? = some y → ∃ ad cs, A = some ad ∧ d.K ok w y cs ∧ ∀ j u, cs[j]? = some u → w.cell? (ad.add (i * d.sz + j)) = some u
  len := fun ⟨_, _, h, _⟩ => by rw [h]; rfl
  one := fun ⟨_, _, h, _⟩ u hu => by subst h; simp at hu; subst hu; rfl
  mv := by
    rintro ok w w' x cs hm ⟨A, c, rfl, hc, h1, ht, h2⟩
    have hblk : 0 < x.length → ∃ ad, A = some ad ∧ w'.heap[ad.block]? = w.heap[ad.block]? ∧ ad.block < w.heap.size ∧ ok ad.block := fun hn => by
      obtain ⟨ad, rfl, hlt, hb⟩ := ht hn
      exact ⟨ad, rfl, hm _ hlt hb, hlt, hb⟩
    refine ⟨A, c, rfl, hc, h1, fun hn => ?_, fun i y hy => ?_⟩
    · obtain ⟨ad, rfl, hb, hlt, ho⟩ := hblk hn
      exact ⟨ad, rfl, by have := hb.trans (Array.getElem?_eq_getElem hlt); exact (Array.getElem?_eq_some_iff.1 this).1, ho⟩
    · have hn : 0 < x.length := by have := (List.getElem?_eq_some_iff.1 hy).1; omega
      obtain ⟨ad, rfl, hb, hlt, _⟩ := hblk hn
      obtain ⟨ad', cs, e1, h3, h4⟩ := h2 i y hy
      cases e1
      refine ⟨ad, cs, rfl, d.mv hm h3, fun j u hu => ?_⟩
      rw [World.cell?_of_block (w := w)]
      · exact h4 j u hu
      · rw [add_block]; exact hb
  mono := by
    rintro ok ok' w x cs ho ⟨A, c, rfl, hc, h1, ht, h2⟩
    refine ⟨A, c, rfl, hc, h1, fun hn => ?_, fun i y hy => ?_⟩
    · obtain ⟨ad, h3, h4, h5⟩ := ht hn
      exact ⟨ad, h3, h4, ho _ h5⟩
    · obtain ⟨ad, cs, h3, h4, h5⟩ := h2 i y hy
      exact ⟨ad, cs, h3, d.mono ho h4, h5⟩
  bd := by
    rintro ok w x cs ⟨A, c, rfl, hc, h1, ht, h2⟩
    refine ⟨A, c, rfl, hc, h1, fun hn => ?_, fun i y hy => ?_⟩
    · obtain ⟨ad, h3, h4, h5⟩ := ht hn
      exact ⟨ad, h3, h4, h5, h4⟩
    · obtain ⟨ad, cs, h3, h4, h5⟩ := h2 i y hy
      exact ⟨ad, cs, h3, d.bd h4, h5⟩

def elInt : El Int := .flat 1 (fun x => [.int .i64 x]) (fun _ => rfl) (fun _ u hu => by simp at hu; subst hu; rfl)
def elStr : El Str := .flat 1 (fun x => [.string x]) (fun _ => rfl) (fun _ u hu => by simp at hu; subst hu; rfl)
def elBr : El Br := .flat 3 (fun x => [.string x.name, .string x.frm, .int .i64 x.at_]) (fun _ => rfl) (fun _ u hu => by simp at hu; rcases hu with rfl | rfl | rfl <;> rfl)
def elMk : El Mk := .flat 2 (fun x => [.int .i64 x.br, .int .i64 x.ev]) (fun _ => rfl) (fun _ u hu => by simp at hu; rcases hu with rfl | rfl <;> rfl)
def elKn : El Kn := .flat 2 (fun x => [.string x.chg, .int .i64 x.cls]) (fun _ => rfl) (fun _ u hu => by simp at hu; rcases hu with rfl | rfl <;> rfl)
def elEv : El Ev := .flat 2 (fun x => [.int .u8 x.kind, .string x.chg]) (fun _ => rfl) (fun _ u hu => by simp at hu; rcases hu with rfl | rfl <;> rfl)
def elGp : El Gp := .flat 3 (fun x => [.string x.br, .int .i64 x.cls, .int .i64 x.wt]) (fun _ => rfl) (fun _ u hu => by simp at hu; rcases hu with rfl | rfl | rfl <;> rfl)

/-- A field's address as the walk spells it. -/
theorem add_field (ad : Addr) (m j : Nat) (hj : 0 < j) : ad.add (m + j) = ⟨(ad.add m).block, (ad.add m).off + j, none⟩ := by
  unfold Addr.add
  by_cases hm : m = 0
  · subst hm
    simp [Nat.ne_of_gt hj]
  · simp [hm, Nat.add_assoc]
theorem Rd.one1 {w : World} {A : Option Addr} {E : El α} {enc : α → Value} (hE : ∀ B w x cs, E.K B w x cs → cs = [enc x]) (h1 : E.sz = 1) {xs : List α} (h : Rd E w A xs) {k : Nat} {x : α} (hk : xs[k]? = some x) :
    ∃ ad, A = some ad ∧ w.cell? (ad.add k) = some (enc x) := by
  obtain ⟨ad, cs, rfl, ⟨B, hK⟩, hc⟩ := h.2 k x hk
  have := hE _ _ _ _ hK
  subst this
  have := hc 0 _ rfl
  rw [h1, Nat.mul_one, Nat.add_zero] at this
  exact ⟨ad, rfl, this⟩
theorem Rd.int {w : World} {A : Option Addr} {xs : List Int} (h : Rd elInt w A xs) {k : Nat} {x : Int} (hk : xs[k]? = some x) : ∃ ad, A = some ad ∧ w.cell? (ad.add k) = some (.int .i64 x) := Rd.one1 (fun _ _ _ _ h => h) rfl h hk
theorem Rd.str {w : World} {A : Option Addr} {xs : List Str} (h : Rd elStr w A xs) {k : Nat} {x : Str} (hk : xs[k]? = some x) : ∃ ad, A = some ad ∧ w.cell? (ad.add k) = some (.string x) := Rd.one1 (fun _ _ _ _ h => h) rfl h hk
theorem Rd.br {w : World} {A : Option Addr} {xs : List Br} (h : Rd elBr w A xs) {k : Nat} {x : Br} (hk : xs[k]? = some x) :
    ∃ ad, A = some ad ∧ w.cell? (ad.add (k * 3)) = some (.string x.name) ∧ w.cell? ⟨(ad.add (k * 3)).block, (ad.add (k * 3)).off + 1, none⟩ = some (.string x.frm) ∧ w.cell? ⟨(ad.add (k * 3)).block, (ad.add (k * 3)).off + 2, none⟩ = some (.int .i64 x.at_) := by
  obtain ⟨ad, cs, rfl, ⟨_, rfl⟩, hc⟩ := h.2 k x hk
  refine ⟨ad, rfl, hc 0 _ rfl, ?_, ?_⟩
  · rw [← add_field _ _ _ (by omega)]; exact hc 1 _ rfl
  · rw [← add_field _ _ _ (by omega)]; exact hc 2 _ rfl
theorem Rd.gp {w : World} {A : Option Addr} {xs : List Gp} (h : Rd elGp w A xs) {k : Nat} {x : Gp} (hk : xs[k]? = some x) :
    ∃ ad, A = some ad ∧ w.cell? (ad.add (k * 3)) = some (.string x.br) ∧ w.cell? ⟨(ad.add (k * 3)).block, (ad.add (k * 3)).off + 1, none⟩ = some (.int .i64 x.cls) ∧ w.cell? ⟨(ad.add (k * 3)).block, (ad.add (k * 3)).off + 2, none⟩ = some (.int .i64 x.wt) := by
  obtain ⟨ad, cs, rfl, ⟨_, rfl⟩, hc⟩ := h.2 k x hk
  refine ⟨ad, rfl, hc 0 _ rfl, ?_, ?_⟩
  · rw [← add_field _ _ _ (by omega)]; exact hc 1 _ rfl
  · rw [← add_field _ _ _ (by omega)]; exact hc 2 _ rfl
theorem Rd.two {w : World} {A : Option Addr} {E : El α} {e0 e1 : α → Value} (hE : ∀ B w x cs, E.K B w x cs → cs = [e0 x, e1 x]) (h1 : E.sz = 2) {xs : List α} (h : Rd E w A xs) {k : Nat} {x : α} (hk : xs[k]? = some x) :
    ∃ ad, A = some ad ∧ w.cell? (ad.add (k * 2)) = some (e0 x) ∧ w.cell? ⟨(ad.add (k * 2)).block, (ad.add (k * 2)).off + 1, none⟩ = some (e1 x) := by
  obtain ⟨ad, cs, rfl, ⟨B, hK⟩, hc⟩ := h.2 k x hk
  have := hE _ _ _ _ hK
  subst this
  rw [h1] at hc
  refine ⟨ad, rfl, hc 0 _ rfl, ?_⟩
  rw [← add_field _ _ _ (by omega)]; exact hc 1 _ rfl
theorem Rd.mk {w : World} {A : Option Addr} {xs : List Mk} (h : Rd elMk w A xs) {k : Nat} {x : Mk} (hk : xs[k]? = some x) :
    ∃ ad, A = some ad ∧ w.cell? (ad.add (k * 2)) = some (.int .i64 x.br) ∧ w.cell? ⟨(ad.add (k * 2)).block, (ad.add (k * 2)).off + 1, none⟩ = some (.int .i64 x.ev) := Rd.two (e0 := fun x : Mk => .int .i64 x.br) (e1 := fun x => .int .i64 x.ev) (fun _ _ _ _ h => h) rfl h hk
theorem Rd.kn {w : World} {A : Option Addr} {xs : List Kn} (h : Rd elKn w A xs) {k : Nat} {x : Kn} (hk : xs[k]? = some x) :
    ∃ ad, A = some ad ∧ w.cell? (ad.add (k * 2)) = some (.string x.chg) ∧ w.cell? ⟨(ad.add (k * 2)).block, (ad.add (k * 2)).off + 1, none⟩ = some (.int .i64 x.cls) := Rd.two (e0 := fun x : Kn => .string x.chg) (e1 := fun x => .int .i64 x.cls) (fun _ _ _ _ h => h) rfl h hk
theorem Rd.ev {w : World} {A : Option Addr} {xs : List Ev} (h : Rd elEv w A xs) {k : Nat} {x : Ev} (hk : xs[k]? = some x) :
    ∃ ad, A = some ad ∧ w.cell? (ad.add (k * 2)) = some (.int .u8 x.kind) ∧ w.cell? ⟨(ad.add (k * 2)).block, (ad.add (k * 2)).off + 1, none⟩ = some (.string x.chg) := Rd.two (e0 := fun x : Ev => .int .u8 x.kind) (e1 := fun x => .string x.chg) (fun _ _ _ _ h => h) rfl h hk
/-- An element that is a slice. -/
theorem Rd.sub {w : World} {A : Option Addr} {d : El α} {xs : List (List α)} (h : Rd (El.sl d) w A xs) {k : Nat} {x : List α} (hk : xs[k]? = some x) :
    ∃ ad B c, A = some ad ∧ w.cell? (ad.add k) = some (.slice B x.length c) ∧ x.length ≤ c ∧ Rd d w B x := by
  obtain ⟨ad, cs, rfl, ⟨B, A', c, rfl, hc, h1, _, h2⟩, hc0⟩ := h.2 k x hk
  have := hc0 0 _ rfl
  rw [show (El.sl d).sz = 1 from rfl, Nat.mul_one, Nat.add_zero] at this
  refine ⟨ad, A', c, rfl, this, hc, h1, fun i y hy => ?_⟩
  obtain ⟨ad, cs, h3, h4, h5⟩ := h2 i y hy
  exact ⟨ad, cs, h3, ⟨B, h4⟩, h5⟩

/-- A ledger by value. -/
structure LgV (w : World) (v : Value) (g : Lg) : Prop where
  mk ::
  ex : ∃ A0 c0 A1 c1 A2 c2, v = .agg #[.slice A0 g.known.length c0, .slice A1 g.brs.length c1, .slice A2 g.evs.length c2] ∧ g.known.length ≤ c0 ∧ g.brs.length ≤ c1 ∧ g.evs.length ≤ c2 ∧
    Rd elKn w A0 g.known ∧ Rd elBr w A1 g.brs ∧ Rd (El.sl elEv) w A2 g.evs
theorem LgV.ext {w w' : World} {v : Value} {g : Lg} (h : LgV w v g) (he : Ext w w') : LgV w' v g := by
  obtain ⟨A0, c0, A1, c1, A2, c2, h1, h2, h3, h4, h5, h6, h7⟩ := h.ex
  exact ⟨A0, c0, A1, c1, A2, c2, h1, h2, h3, h4, h5.ext he, h6.ext he, h7.ext he⟩
end Go.Proofs.YtgibdafkidkahaaGreatDoor
