/- Derived: walks: missing.index, with what becomes of the world told to the end: draws and new blocks. -/
import Derived.Test.YtgibdafkidkahaaGreatDoorIdxF
import Derived.Sort.Grow
set_option linter.unusedVariables false
set_option linter.unusedSimpArgs false
namespace Go.Proofs.YtgibdafkidkahaaGreatDoor
open Go.RowKit

/-- Draws and new blocks, nothing else. -/
def Grw (w w' : World) : Prop := ∃ q os, w' = Sort.grow (w.drewN q) os
theorem Grw.refl (w : World) : Grw w w := ⟨0, #[], by rw [Sort.grow_empty]; rfl⟩
theorem Grw.trans {a b c : World} (h : Grw a b) (k : Grw b c) : Grw a c := by
  obtain ⟨q, os, rfl⟩ := h
  obtain ⟨q', os', rfl⟩ := k
  refine ⟨q + q', os ++ os', ?_⟩
  show Sort.grow (Sort.grow ((a.drewN q).drewN q') os) os' = _
  rw [Sort.grow_grow, World.drewN_drewN]
theorem Grw.drew {a b : World} (h : Grw a b) : Grw a b.drew := h.trans ⟨1, #[], by rw [Sort.grow_empty]; rfl⟩
theorem Grw.alloc {a b : World} (h : Grw a b) (o : Obj) : Grw a (b.alloc o) := h.trans ⟨0, #[o], Sort.alloc_eq_grow b o⟩
theorem Grw.ext {a b : World} (h : Grw a b) : Ext a b := by
  obtain ⟨q, os, rfl⟩ := h
  refine ⟨rfl, rfl, rfl, by rw [Sort.size_grow]; exact Nat.le_add_right _ _, fun k hk => Sort.heap_grow_old _ _ hk⟩
theorem run_storeCells_drawn {P : Program} {g : Nat} {t : TypeId} : ∀ (vs : List Value) (i : Nat) (w w' : World) (cs : Array Value), w.heap[g]? = some (.cells cs t (0, 0)) → cs.size = i + vs.length → (∀ v ∈ vs, v.oneCell' = true) →
    (storeCells ⟨g, 0, none⟩ vs i).run P w = .ok () w' → w'.drawn = w.drawn
  | [], i, w, w', cs, hb, hi, h1, hr => by
    simp [storeCells, Sem.run_pure] at hr
    rw [← hr]
  | v :: vs, i, w, w', cs, hb, hi, h1, hr => by
    have hi' : i < cs.size := by simp at hi; omega
    have hc : w.cell? ⟨g, i, none⟩ = some cs[i] := by rw [blk_cell hb]; exact Array.getElem?_eq_getElem hi'
    have hv := h1 v List.mem_cons_self
    have hb' := blk_set hb i v
    rw [storeCells, add_plain] at hr
    simp only [Sem.run_bind, run_store P w _ v .plain hv, hc, blk_frozen hb] at hr
    exact run_storeCells_drawn (P := P) vs (i + 1) (w.setCell ⟨g, i, none⟩ v) w' _ hb' (by simp at hi ⊢; omega) (fun u hu => h1 u (List.mem_cons_of_mem _ hu)) (by simpa [Result.andThen] using hr)
theorem grw_of_turned {w w2 : World} {o o' : Obj} (ht : Turned w.heap.size (w.alloc o) w2) (hd : w2.drawn = w.drawn) (hb : w2.heap[w.heap.size]? = some o') : Grw w w2 := by
  refine ⟨0, #[o'], ?_⟩
  rw [World.drewN_zero]
  obtain ⟨h2, t2, d2, s2, p2⟩ := w2
  obtain ⟨h1, t1, d1, s1, p1⟩ := w
  have e1 := ht.os
  have e2 := ht.tape
  have e3 := ht.output
  have e4 := ht.size
  have e5 := ht.block
  simp only [World.alloc] at e1 e2 e3 e4 e5
  subst e1 e2 e3 hd
  simp only [Sort.grow, World.mk.injEq, and_true]
  apply Array.ext_getElem?
  intro k
  rw [Array.getElem?_append]
  rcases Nat.lt_trichotomy k h1.size with hk | hk | hk
  · rw [if_pos hk, e5 k (by omega), Array.getElem?_push, if_neg (by omega)]
  · subst hk
    rw [if_neg (by omega), Nat.sub_self, hb]
    rfl
  · rw [if_neg (by omega), Array.getElem?_eq_none (by rw [e4]; simp; omega), Array.getElem?_eq_none (by simp; omega)]
section
variable {P : Program} {ops : Array Oper} {rest : List Oper} {a : Act} {Q : Exit → Act → World → Prop} {w : World}
theorem ev_boxG {d : Option Tmp} {t ty : TypeId} {x : Operand} {pos : String} {af : Array Edge} (cs : Array Value) (hcs : (a.eval x).cells = cs)
    (h : ∀ g w1, w1.heap[g]? = some (.cells cs t (0, 0)) → Grw w w1 → w.heap.size ≤ g → wpList P ops Q rest (a.put d (.pointer (some ⟨g, 0, none⟩))) w1) :
    wpList P ops Q ({ dst := d, op := .box t x, type := ty, pos := pos, after := af, guard := none } :: rest) a w := by
  subst hcs
  exact wp_run rfl rfl (h _ _ (blk_new w _) ((Grw.refl w).alloc _) (Nat.le_refl _))
theorem ev_boxSG {d : Option Tmp} {t ty : TypeId} {x : Operand} {pos : String} {af : Array Edge} {s : ByteArray} (hx : a.eval x = .string s)
    (h : ∀ g w1, Grw w w1 → w.heap.size ≤ g → w1.cell? ⟨g, 0, none⟩ = some (.string s) → wpList P ops Q rest (a.put d (.pointer (some ⟨g, 0, none⟩))) w1) :
    wpList P ops Q ({ dst := d, op := .box t x, type := ty, pos := pos, after := af, guard := none } :: rest) a w :=
  ev_boxG #[.string s] (by rw [hx]; rfl) fun g w1 hb he hg => h g w1 he hg (blk_cell hb 0)
theorem ev_box3G {d : Option Tmp} {t ty : TypeId} {x : Operand} {pos : String} {af : Array Edge} {c0 c1 c2 : Value} (hx : a.eval x = .agg #[c0, c1, c2])
    (h : ∀ g w1, Grw w w1 → w.heap.size ≤ g → g < w1.heap.size → w1.cell? ⟨g, 0, none⟩ = some c0 → w1.cell? ⟨g, 1, none⟩ = some c1 → w1.cell? ⟨g, 2, none⟩ = some c2 → wpList P ops Q rest (a.put d (.pointer (some ⟨g, 0, none⟩))) w1) :
    wpList P ops Q ({ dst := d, op := .box t x, type := ty, pos := pos, after := af, guard := none } :: rest) a w :=
  ev_boxG #[c0, c1, c2] (by rw [hx]; rfl) fun g w1 hb he hg => h g w1 he hg (blk_lt hb) (blk_cell hb 0) (blk_cell hb 1) (blk_cell hb 2)
theorem ev_storeG {t ty : TypeId} {p x : Operand} {pos : String} {af : Array Edge} {g : Nat} {cs : Array Value} {t' : TypeId} {v : Value} (ha : a.eval p = .pointer (some ⟨g, 0, none⟩)) (hx : a.eval x = v) (hb : w.heap[g]? = some (.cells cs t' (0, 0)))
    (hsz : (P.info? t).map (fun i => i.size) = some v.cells.size) (hcs : cs.size = v.cells.size) (h1 : ∀ u ∈ v.cells.toList, u.oneCell' = true)
    (h : ∀ w1, w1.heap[g]? = some (.cells v.cells t' (0, 0)) → Turned g w w1 → w1.drawn = w.drawn → wpList P ops Q rest a w1) :
    wpList P ops Q ({ dst := none, op := .store t p x, type := ty, pos := pos, after := af, guard := none } :: rest) a w := by
  obtain ⟨i, hi, hsz⟩ := Option.map_eq_some_iff.1 hsz
  obtain ⟨w', hr, h2, h3⟩ := run_storeCells (P := P) v.cells.toList 0 w cs hb (by simpa using hcs) h1
  have hd := run_storeCells_drawn (P := P) v.cells.toList 0 w w' cs hb (by simpa using hcs) h1 hr
  refine wpList_plain rfl fun K hK => ?_
  unfold Oper.wp
  have : (execOp a.eval { dst := none, op := .store t p x, type := ty, pos := pos, after := af, guard := none }).run P w = .ok .skip w' := by
    simp [execOp, ha, hx, Instr.storeAt, Instr.sureAddr, storeVar, sizeOf, typeInfo, program, Sem.run_bind, Sem.run_pure, Result.andThen_ok, Sem.run, hi, hsz, hr]
  rw [this]
  exact hK _ _ (h w' (by simpa using h2) h3 hd)
theorem ev_variG {d s : Tmp} {t t1 t2 t3 : TypeId} {x y : Operand} {p1 p2 p3 : String} {f1 f2 f3 : Array Edge} {v : Value} (z : Value) (hz : (P.info? t).map (fun i => (i.zero, i.size)) = some (some z, z.cells.size))
    (hd : ∀ u u', ((a.put (some d) u).put (some s) u').eval (.tmp d) = u) (hx : ∀ u u', ((a.put (some d) u).put (some s) u').eval x = v) (hs : z.cells.size = v.cells.size) (h1 : ∀ u ∈ v.cells.toList, u.oneCell' = true)
    (h : ∀ g w1, w1.heap[g]? = some (.cells v.cells t (0, 0)) → Grw w w1 → w.heap.size ≤ g → wpList P ops Q rest ((a.put (some d) (.pointer (some ⟨g, 0, none⟩))).put (some s) ((a.put (some d) (.pointer (some ⟨g, 0, none⟩))).eval y)) w1) :
    wpList P ops Q ({ dst := some d, op := .alloc t, type := t1, pos := p1, after := f1, guard := none } :: { dst := some s, op := .assign y, type := t3, pos := p3, after := f3, guard := none } :: { dst := none, op := .store t (.tmp d) x, type := t2, pos := p2, after := f2, guard := none } :: rest) a w := by
  obtain ⟨i, hi, hzz⟩ := Option.map_eq_some_iff.1 hz
  simp only [Prod.mk.injEq] at hzz
  refine wp_run (v := .pointer (some ⟨w.heap.size, 0, none⟩)) (w1 := w.alloc (.cells z.cells t)) rfl (by simp [execOp, Instr.alloc, zeroValue, typeInfo, hi, hzz, go_sem]) ?_
  refine wp_run rfl rfl ?_
  refine ev_storeG (g := w.heap.size) (cs := z.cells) (hd _ _) (hx _ _) (blk_new w _) (by rw [hi, Option.map_some, hzz.2, hs]) hs h1 fun w2 hb2 ht hdr => ?_
  exact h _ w2 hb2 (grw_of_turned ht hdr hb2) (Nat.le_refl _)
end

theorem missing_index1 (x : Br) (g : Nat) (nm : Str) (w : World) (hp : w.cell? ⟨g, 0, none⟩ = some (.string nm)) :
    Calls Tryz.prog 177 #[.agg #[.string x.name, .string x.frm, .int .i64 x.at_], .pointer (some ⟨g, 0, none⟩)] w fun e w' => e = .returned (.bool (decide (x.name = nm))) ∧ Grw w w' := by
  have hd := seq_d x.name nm
  have HD := Lib.hid hd
  clear hd
  go_enter Tryz.func177, Tryz.ntmps177
  go_wp2_with ((with_reducible refine ev_box3G (c0 := ?c0) (c1 := ?c1) (c2 := ?c2) ?hx ?_); (case hx => rfl); intro g1 w1 he _ _ k0 k1 k2; have hp1 := he.ext.cell hp; have HE := Lib.hid he; clear he)
  go_ret
  exact ⟨ret_bool HD.out, HE.out⟩
set_option maxHeartbeats 400000 in
theorem missing_place (l : List Br) (A : Option Addr) (c gp : Nat) (nm : Str) (w : World) (hl : Rd elBr w A l) (hp : w.cell? ⟨gp, 0, none⟩ = some (.string nm)) :
    Calls Tryz.prog 176 #[.slice A l.length c, .func (.func 177) #[] #[.pointer (some ⟨gp, 0, none⟩)]] w fun e w' => e = .returned (.int .i64 (idx l nm)) ∧ Grw w w' := by
  have hm := hl.1
  have hF : ∀ args w, (callFunc 177 args).run Tryz.prog w = .ok (.enter 177 args) w := fun _ _ => by kernel_rfl
  have HPC := Lib.hid hp
  clear hp
  go_enter Tryz.func176, Tryz.ntmps176
  go_wp2
  go_loopw [9] (fun i wr => ∃ k : Nat, k ≤ l.length ∧ i = .int .i64 k ∧ Hid (∀ j x, j < k → l[j]? = some x → x.name ≠ nm) ∧ Hid (Grw w wr)) (fun i _ => l.length - (intOf i).toNat)
  case atStart => exact ⟨0, Nat.zero_le _, rfl, fun j x hj => absurd hj (by omega), Grw.refl w⟩
  case round =>
    obtain ⟨k, hk, rfl, hn, hE⟩ := hrel
    by_cases hlt : k < l.length
    · have hx : l[k]? = some l[k] := List.getElem?_eq_getElem hlt
      generalize l[k] = x at hx
      obtain ⟨ad, rfl, h0, h1, h2⟩ := (hl.ext hE.out.ext).br hx
      have HX := Lib.hid hx
      clear hx hl
      go_wp2_with (first | ((with_reducible refine ev_variG (v := .agg #[.string x.name, .string x.frm, .int .i64 x.at_]) _ zBr ?hd ?hx ?hs ?h1 ?_); (case hd => exact fun _ _ => rfl); (case hx => exact fun _ _ => rfl); (case hs => rfl); (case h1 => exact one3 rfl rfl rfl); intro gx w1 hb he hgx; have m0 := (blk_cell hb 0).trans rfl; have m1 := (blk_cell hb 1).trans rfl; have m2 := (blk_cell hb 2).trans rfl))
      have HC := Lib.hid (missing_index1 x gp nm w1 ((hE.out.trans he).ext.cell HPC.out))
      have HE1 := Lib.hid (hE.out.trans he)
      clear hE he hb hgx h0 h1 h2
      by_cases hs : x.name = nm
      · have HV : Hid (idx l nm = k) := Lib.hid (idx_found HX.out hn.out hs)
        rw [decide_eq_true hs] at HC
        clear hs
        refine HC.out.mono ?_
        rintro e w2 ⟨rfl, hE2⟩
        have hE3 := Lib.hid (HE1.out.trans hE2)
        clear hE2 m0 m1 m2
        go_wp2
        go_ret
        exact ⟨ret_int HV.out.symm, hE3.out⟩
      · have HS := Lib.hid hs
        rw [decide_eq_false hs] at HC
        clear hs
        refine HC.out.mono ?_
        rintro e w2 ⟨rfl, hE2⟩
        have hE3 := Lib.hid (HE1.out.trans hE2)
        clear hE2 m0 m1 m2
        go_wp2
        go_roundw
        case rel =>
          refine ⟨k + 1, by omega, by go_num, fun j y hj hy => ?_, hE3.out⟩
          rcases Nat.lt_succ_iff_lt_or_eq.1 hj with h | rfl
          · exact hn.out j y h hy
          · rw [HX.out] at hy; cases hy; exact HS.out
        case measure => simp [intOf]; omega
    · have HV : Hid (idx l nm = -1) := Lib.hid (idx_none fun j y hy => hn.out j y (by have := (List.getElem?_eq_some_iff.1 hy).1; omega) hy)
      go_wp2
      go_ret
      exact ⟨ret_int HV.out.symm, hE.out⟩
theorem missing_indexG (g : Lg) (nm : Str) (v : Value) (w : World) (hv : LgV w v g) :
    Calls Tryz.prog 98 #[v, .string nm] w fun e w' => e = .returned (.int .i64 (idx g.brs nm)) ∧ Grw w w' := by
  obtain ⟨A0, c0, A1, c1, A2, c2, rfl, h0, h1, h2, r0, r1, r2⟩ := hv.ex
  go_enter Tryz.func98, Tryz.ntmps98
  go_wp2_with (with_reducible refine stop_box ?_)
  refine Stop.go ?_
  refine ev_box3G (c0 := .slice A0 g.known.length c0) (c1 := .slice A1 g.brs.length c1) (c2 := .slice A2 g.evs.length c2) rfl ?_
  intro g1 w1 he hg _ k0 k1 k2
  have R1 := Lib.hid (r1.ext he.ext)
  have HE := Lib.hid he
  clear he hg r0 r1 r2 hv
  refine ev_boxSG (s := nm) rfl ?_
  intro g2 w2 he2 hg2 m0
  have R2 := Lib.hid (R1.out.ext he2.ext)
  have HE2 := Lib.hid (HE.out.trans he2)
  replace k1 := he2.ext.cell k1
  have HC := Lib.hid (missing_place g.brs A1 c1 g2 nm w2 R2.out m0)
  clear he2 hg2 k0 k2
  go_wp2_with fail
  refine HC.out.mono ?_
  rintro e w3 ⟨rfl, he3⟩
  have HE3 := Lib.hid (HE2.out.trans he3)
  clear he3 HC
  go_wp2
  go_ret
  exact ⟨rfl, HE3.out⟩
theorem missing_index (g : Lg) (nm : Str) (v : Value) (w : World) (hv : LgV w v g) :
    Calls Tryz.prog 98 #[v, .string nm] w fun e w' => e = .returned (.int .i64 (idx g.brs nm)) ∧ Ext w w' :=
  (missing_indexG g nm v w hv).mono fun _ _ ⟨h1, h2⟩ => ⟨h1, h2.ext⟩
end Go.Proofs.YtgibdafkidkahaaGreatDoor
