/- Derived: walks: the chapter's example: the program's answers there. -/
import Derived.Test.YtgibdafkidkahaaGreatDoorAlM
import Derived.Laws.Rows
set_option linter.unusedVariables false
set_option linter.unusedSimpArgs false
namespace Go.Proofs.YtgibdafkidkahaaGreatDoor
open Go.RowKit

section
variable {P : Program} {ops : Array Oper} {rest : List Oper} {a : Act} {Q : Exit → Act → World → Prop} {w : World} {d : Option Tmp} {t e ty : TypeId} {pos : String} {af : Array Edge} {cs : Array Value}
theorem ev_l1 {x : Operand} {y : Value} (hx : a.eval x = y) (hbs : ∀ w, (Instr.buildSlice t 1 #[(0, y)]).run P w = .ok (.slice (some ⟨w.heap.size, 0, none⟩) 1 1) (w.alloc (.cells cs e)))
    (h : ∀ g w1, w1.heap[g]? = some (.cells cs e (0, 0)) → Ext w w1 → w.heap.size ≤ g → wpList P ops Q rest (a.put d (.slice (some ⟨g, 0, none⟩) 1 1)) w1) :
    wpList P ops Q ({ dst := d, op := .buildSlice t 1 #[(0, x)], type := ty, pos := pos, after := af, guard := none } :: rest) a w := by
  refine wp_run (v := .slice (some ⟨w.heap.size, 0, none⟩) 1 1) (w1 := w.alloc (.cells cs e)) rfl ?_ (h _ _ (blk_new w _) ((Ext.refl w).alloc _) (Nat.le_refl _))
  simp only [execOp, List.map_toArray, List.map_cons, List.map_nil, hx, Sem.run_bind, hbs, Result.andThen, Sem.run_pure]
theorem ev_l2 {x1 x2 : Operand} {y1 y2 : Value} (h1 : a.eval x1 = y1) (h2 : a.eval x2 = y2) (hbs : ∀ w, (Instr.buildSlice t 2 #[(0, y1), (1, y2)]).run P w = .ok (.slice (some ⟨w.heap.size, 0, none⟩) 2 2) (w.alloc (.cells cs e)))
    (h : ∀ g w1, w1.heap[g]? = some (.cells cs e (0, 0)) → Ext w w1 → w.heap.size ≤ g → wpList P ops Q rest (a.put d (.slice (some ⟨g, 0, none⟩) 2 2)) w1) :
    wpList P ops Q ({ dst := d, op := .buildSlice t 2 #[(0, x1), (1, x2)], type := ty, pos := pos, after := af, guard := none } :: rest) a w := by
  refine wp_run (v := .slice (some ⟨w.heap.size, 0, none⟩) 2 2) (w1 := w.alloc (.cells cs e)) rfl ?_ (h _ _ (blk_new w _) ((Ext.refl w).alloc _) (Nat.le_refl _))
  simp only [execOp, List.map_toArray, List.map_cons, List.map_nil, h1, h2, Sem.run_bind, hbs, Result.andThen, Sem.run_pure]
end
theorem litKn1 (s : Str) (n : Int) (w : World) : (Instr.buildSlice 22 1 #[(0, .agg #[.string s, .int .i64 n])]).run Tryz.prog w = .ok (.slice (some ⟨w.heap.size, 0, none⟩) 1 1) (w.alloc (.cells #[.string s, .int .i64 n] 180)) := by kernel_rfl
theorem litEv1 (s : Str) (n : Int) (w : World) : (Instr.buildSlice 72 1 #[(0, .agg #[.int .u8 n, .string s])]).run Tryz.prog w = .ok (.slice (some ⟨w.heap.size, 0, none⟩) 1 1) (w.alloc (.cells #[.int .u8 n, .string s] 76)) := by kernel_rfl
theorem litBr2 (s f s' f' : Str) (n n' : Int) (w : World) : (Instr.buildSlice 23 2 #[(0, .agg #[.string s, .string f, .int .i64 n]), (1, .agg #[.string s', .string f', .int .i64 n'])]).run Tryz.prog w = .ok (.slice (some ⟨w.heap.size, 0, none⟩) 2 2) (w.alloc (.cells #[.string s, .string f, .int .i64 n, .string s', .string f', .int .i64 n'] 66)) := by kernel_rfl
theorem litSl2 (A B : Option Addr) (n c n' c' : Nat) (w : World) : (Instr.buildSlice 24 2 #[(0, .slice A n c), (1, .slice B n' c')]).run Tryz.prog w = .ok (.slice (some ⟨w.heap.size, 0, none⟩) 2 2) (w.alloc (.cells #[.slice A n c, .slice B n' c'] 72)) := by kernel_rfl
theorem litStr2 (s s' : Str) (w : World) : (Instr.buildSlice 78 2 #[(0, .string s), (1, .string s')]).run Tryz.prog w = .ok (.slice (some ⟨w.heap.size, 0, none⟩) 2 2) (w.alloc (.cells #[.string s, .string s'] 9)) := by kernel_rfl
theorem litStr1 (s : Str) (w : World) : (Instr.buildSlice 78 1 #[(0, .string s)]).run Tryz.prog w = .ok (.slice (some ⟨w.heap.size, 0, none⟩) 1 1) (w.alloc (.cells #[.string s] 9)) := by kernel_rfl
theorem litFx2 (x y x' y' : Int) (A B : Option Addr) (n c n' c' : Nat) (w : World) : (Instr.buildSlice 27 2 #[(0, .agg #[.int .i64 x, .int .i64 y, .slice A n c]), (1, .agg #[.int .i64 x', .int .i64 y', .slice B n' c'])]).run Tryz.prog w = .ok (.slice (some ⟨w.heap.size, 0, none⟩) 2 2) (w.alloc (.cells #[.int .i64 x, .int .i64 y, .slice A n c, .int .i64 x', .int .i64 y', .slice B n' c'] 80)) := by kernel_rfl
theorem litGp2 (s s' : Str) (x y x' y' : Int) (w : World) : (Instr.buildSlice 29 2 #[(0, .agg #[.string s, .int .i64 x, .int .i64 y]), (1, .agg #[.string s', .int .i64 x', .int .i64 y'])]).run Tryz.prog w = .ok (.slice (some ⟨w.heap.size, 0, none⟩) 2 2) (w.alloc (.cells #[.string s, .int .i64 x, .int .i64 y, .string s', .int .i64 x', .int .i64 y'] 62)) := by kernel_rfl
theorem zLg : (Tryz.prog.info? 26).map (fun i => (i.zero, i.size)) = some (some (.agg #[.slice none 0 0, .slice none 0 0, .slice none 0 0]), 3) := by kernel_rfl
theorem zLg1 : (Tryz.prog.info? 26).map (fun i => i.zero) = some (some (.agg #[.slice none 0 0, .slice none 0 0, .slice none 0 0])) := by kernel_rfl
theorem zLg2 : (Tryz.prog.info? 26).map (fun i => i.size) = some 3 := by kernel_rfl
theorem k_row {α : Type} (E : El α) {w : World} {g : Nat} {t : TypeId} {A : Option Addr} {n c : Nat} {l : List α} (hA : A = some ⟨g, 0, none⟩) (hn : n = l.length) (hc : l.length ≤ c) (hl : l.length ≤ 1000) (css : List (List Value)) (hb : w.heap[g]? = some (.cells css.flatten.toArray t (0, 0))) (hK : All2 (E.K (fun _ => True) w) l css) : (El.sl E).K (fun _ => True) w l [.slice A n c] := by
  subst hA hn
  refine ⟨_, c, rfl, hc, by omega, fun _ => ⟨_, rfl, blk_lt hb, trivial⟩, fun i y hy => ?_⟩
  have hr := Rd.blk (E := E) (xs := l) (ok := fun _ => True) hb rfl (by omega) hK
  obtain ⟨ad, cs, h3, ⟨ok, h4⟩, h5⟩ := hr.2 i y hy
  exact ⟨ad, cs, h3, E.mono (fun _ _ => trivial) h4, h5⟩
set_option maxRecDepth 100000 in
set_option maxHeartbeats 4000000 in
theorem law34_example (w : World) : Calls Tryz.prog 94 #[] w fun e w' => ∃ v, e = .returned v ∧ LgV w' v exG ∧ Ext w w' := by
  go_enter Tryz.func94, Tryz.ntmps94
  go_wp2_with (with_reducible refine stop_alloc ?_)
  refine Stop.go ?_
  refine ev_alloc _ zLg1 ?_
  intro gr w1 hb1 he1 hg1
  have HB1 := Lib.hid hb1
  have HE1 := Lib.hid he1
  have HG1 : Hid (w.heap.size ≤ gr ∧ gr < w1.heap.size) := Lib.hid ⟨hg1, blk_lt hb1⟩
  clear hb1 he1 hg1
  go_wp2_with (with_reducible refine stop_lit ?_)
  refine Stop.go ?_
  refine ev_l1 (y := .agg #[.string sA, .int .i64 3]) rfl (litKn1 sA 3) ?_
  intro g2 w2 hb2 he2 hg2
  have HB2 := Lib.hid hb2
  have HE2 := Lib.hid he2
  have HG2 := Lib.hid hg2
  clear hb2 he2 hg2
  go_wp2_with (with_reducible refine stop_lit ?_)
  refine Stop.go ?_
  refine ev_l2 (y1 := .agg #[.string sMain, .string ⟨#[]⟩, .int .i64 0]) (y2 := .agg #[.string sR1, .string sMain, .int .i64 0]) rfl rfl (litBr2 sMain ⟨#[]⟩ sR1 sMain 0 0) ?_
  intro g3 w3 hb3 he3 hg3
  have HB3 := Lib.hid hb3
  have HE3 := Lib.hid he3
  have HG3 := Lib.hid hg3
  clear hb3 he3 hg3
  go_wp2_with (with_reducible refine stop_lit ?_)
  refine Stop.go ?_
  refine ev_l1 (y := .agg #[.int .u8 1, .string sA]) rfl (litEv1 sA 1) ?_
  intro g4 w4 hb4 he4 hg4
  have HB4 := Lib.hid hb4
  have HE4 := Lib.hid he4
  have HG4 := Lib.hid hg4
  clear hb4 he4 hg4
  go_wp2_with (with_reducible refine stop_lit ?_)
  refine Stop.go ?_
  refine ev_l2 (y1 := .slice (some ⟨g4, 0, none⟩) 1 1) (y2 := .slice none 0 0) rfl rfl (litSl2 _ _ _ _ _ _) ?_
  intro g5 w5 hb5 he5 hg5
  have HB5 := Lib.hid hb5
  have HE5 := Lib.hid he5
  have HG5 := Lib.hid hg5
  clear hb5 he5 hg5
  go_wp2_with (with_reducible refine stop_store ?_)
  refine Stop.go ?_
  refine ev_store (v := .agg #[.slice (some ⟨g2, 0, none⟩) 1 1, .slice (some ⟨g3, 0, none⟩) 2 2, .slice (some ⟨g5, 0, none⟩) 2 2]) rfl rfl ((((HE2.out.trans HE3.out).trans HE4.out).trans HE5.out).blk HB1.out) zLg2 rfl (one3 rfl rfl rfl) ?_
  intro w6 hb6 ht6
  have m0 := (blk_cell hb6 0).trans rfl
  have m1 := (blk_cell hb6 1).trans rfl
  have m2 := (blk_cell hb6 2).trans rfl
  have HF : Hid (LgV w6 (.agg #[.slice (some ⟨g2, 0, none⟩) 1 1, .slice (some ⟨g3, 0, none⟩) 2 2, .slice (some ⟨g5, 0, none⟩) 2 2]) exG ∧ Ext w w6) := Lib.hid (by
    obtain ⟨q1, q2⟩ := HG1.out
    have s2 := HE2.out.size
    have s3 := HE3.out.size
    have s4 := HE4.out.size
    have q3 := HG2.out
    have q4 := HG3.out
    have q5 := HG4.out
    have q6 := HG5.out
    have z2 : w6.heap[g2]? = _ := (ht6.block g2 (by omega)).trans (((HE3.out.trans HE4.out).trans HE5.out).blk HB2.out)
    have z3 : w6.heap[g3]? = _ := (ht6.block g3 (by omega)).trans ((HE4.out.trans HE5.out).blk HB3.out)
    have z4 : w6.heap[g4]? = _ := (ht6.block g4 (by omega)).trans (HE5.out.blk HB4.out)
    have z5 : w6.heap[g5]? = _ := (ht6.block g5 (by omega)).trans HB5.out
    refine ⟨⟨_, 1, _, 2, _, 2, rfl, by decide, by decide, by decide, ?_, ?_, ?_⟩, ht6.ext ((((HE1.out.trans HE2.out).trans HE3.out).trans HE4.out).trans HE5.out) q1⟩
    · exact Rd.blk (E := elKn) (css := [[.string sA, .int .i64 3]]) (ok := fun _ => True) z2 rfl (by decide) (.cons rfl .nil)
    · exact Rd.blk (E := elBr) (css := [[.string sMain, .string ⟨#[]⟩, .int .i64 0], [.string sR1, .string sMain, .int .i64 0]]) (ok := fun _ => True) z3 rfl (by decide) (.cons rfl (.cons rfl .nil))
    · refine Rd.blk (E := El.sl elEv) (css := [[.slice (some ⟨g4, 0, none⟩) 1 1], [.slice none 0 0]]) (ok := fun _ => True) z5 rfl (by decide) (.cons ?_ (.cons ?_ .nil))
      · exact k_row elEv rfl rfl (by decide) (by decide) [[.int .u8 1, .string sA]] z4 (.cons rfl .nil)
      · exact (Own.nil elEv 76 0 w6).k |> El.mono _ (fun _ _ => trivial))
  have HB6 := Lib.hid hb6
  clear hb6 ht6 HB1 HB2 HB3 HB4 HB5 HE1 HE2 HE3 HE4 HE5 HG1 HG2 HG3 HG4 HG5
  go_wp2
  ((try simp only [Exit.inBlock, Exit.then]); refine bodyPost_ret (results_cell_row rfl _ _ gr 26 _ (0, 0) _ rfl HB6.out Tryz.underlying26 rfl zLg2) rfl ?_)
  exact ⟨_, rfl, HF.out⟩
set_option maxRecDepth 100000 in
set_option maxHeartbeats 4000000 in
theorem law34_fixes (w : World) : Calls Tryz.prog 95 #[] w fun e w' => ∃ A c, e = .returned (.slice A exF.length c) ∧ Rd elFx w' A exF ∧ Ext w w' := by
  go_enter Tryz.func95, Tryz.ntmps95
  go_wp2_with (with_reducible refine stop_lit ?_)
  refine Stop.go ?_
  refine ev_l2 (y1 := .string sMain) (y2 := .string sR1) rfl rfl (litStr2 sMain sR1) ?_
  intro g2 w2 hb2 he2 hg2
  have HB2 := Lib.hid hb2
  have HE2 := Lib.hid he2
  clear hb2 he2 hg2
  go_wp2_with (with_reducible refine stop_lit ?_)
  refine Stop.go ?_
  refine ev_l1 (y := .string sR1) rfl (litStr1 sR1) ?_
  intro g3 w3 hb3 he3 hg3
  have HB3 := Lib.hid hb3
  have HE3 := Lib.hid he3
  clear hb3 he3 hg3
  go_wp2_with (with_reducible refine stop_lit ?_)
  refine Stop.go ?_
  refine ev_l2 (y1 := .agg #[.int .i64 3, .int .i64 5, .slice (some ⟨g2, 0, none⟩) 2 2]) (y2 := .agg #[.int .i64 1, .int .i64 9, .slice (some ⟨g3, 0, none⟩) 1 1]) rfl rfl (litFx2 3 5 1 9 _ _ _ _ _ _) ?_
  intro g4 w4 hb4 he4 hg4
  have HF : Hid (Rd elFx w4 (some ⟨g4, 0, none⟩) exF ∧ Ext w w4) := Lib.hid (by
    have z2 : w4.heap[g2]? = _ := (HE3.out.trans he4).blk HB2.out
    have z3 : w4.heap[g3]? = _ := he4.blk HB3.out
    refine ⟨?_, (HE2.out.trans HE3.out).trans he4⟩
    refine Rd.blk (E := elFx) (css := [[.int .i64 3, .int .i64 5, .slice (some ⟨g2, 0, none⟩) 2 2], [.int .i64 1, .int .i64 9, .slice (some ⟨g3, 0, none⟩) 1 1]]) (ok := fun _ => True) hb4 rfl (by decide) (.cons ⟨_, rfl, ?_⟩ (.cons ⟨_, rfl, ?_⟩ .nil))
    · exact k_row elStr rfl rfl (by decide) (by decide) [[.string sMain], [.string sR1]] z2 (.cons rfl (.cons rfl .nil))
    · exact k_row elStr rfl rfl (by decide) (by decide) [[.string sR1]] z3 (.cons rfl .nil))
  clear hb4 he4 hg4 HB2 HB3 HE2 HE3
  go_wp2
  go_ret
  exact ⟨_, _, rfl, HF.out⟩
end Go.Proofs.YtgibdafkidkahaaGreatDoor
