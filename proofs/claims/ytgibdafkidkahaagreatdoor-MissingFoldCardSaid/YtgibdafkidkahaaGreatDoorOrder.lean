/- Derived: walks: the order of gaps. -/
import Derived.Test.YtgibdafkidkahaaGreatDoorGaps
import Derived.Test.YtgibdafkidkahaaGreatDoorPln
import Derived.Shelf.SlSortCmp.WholeK
set_option linter.unusedVariables false
set_option linter.unusedSimpArgs false
namespace Go.Proofs.YtgibdafkidkahaaGreatDoor
open Go.RowKit

/-- The first of some numbers that is not 0, or 0. -/
def orL : List Int → Int
  | [] => 0
  | x :: t => if x ≠ 0 then x else orL t
theorem orL_at : ∀ {l : List Int} {k : Nat} {x : Int}, l[k]? = some x → (∀ j y, j < k → l[j]? = some y → y = 0) → x ≠ 0 → orL l = x
  | [], k, x, h, _, _ => by simp at h
  | y :: t, 0, x, h, _, hx => by simp at h; subst h; rw [orL, if_pos hx]
  | y :: t, k + 1, x, h, hz, hx => by
    have h0 := hz 0 y (by omega) rfl
    rw [orL, if_neg (by simp [h0])]
    exact orL_at (by simpa using h) (fun j z hj hy => hz (j + 1) z (by omega) (by simpa using hy)) hx
theorem orL_zero : ∀ {l : List Int}, (∀ (j : Nat) (y : Int), l[j]? = some y → y = 0) → orL l = 0
  | [], _ => rfl
  | y :: t, hz => by
    rw [orL, if_neg (by simp [hz 0 y rfl])]
    exact orL_zero fun j z hy => hz (j + 1) z (by simpa using hy)
theorem cmp_Or (l : List Int) (A : Option Addr) (n c : Nat) (w : World) (hl : Rd elInt w A l) (hn : l.length = n) :
    Calls Tryz.prog 161 #[.slice A n c] w fun e w' => e = .returned (.int .i64 (orL l)) ∧ w = w' := by
  have hm := hl.1
  rw [hn] at hm
  have HN := Lib.hid hn
  clear hn
  go_enter Tryz.func161, Tryz.ntmps161
  go_wp2
  go_loop [8] (fun i => ∃ k : Nat, k ≤ n ∧ i = .int .i64 k ∧ Hid (∀ j y, j < k → l[j]? = some y → y = 0)) (fun i => n - (intOf i).toNat)
  case atStart => exact ⟨0, Nat.zero_le _, rfl, fun j x hj => absurd hj (by omega)⟩
  case round =>
    obtain ⟨k, hk, rfl, hn⟩ := hrel
    by_cases hlt : k < n
    · have hx : l[k]? = some (l[k]'(by rw [HN.out]; exact hlt)) := List.getElem?_eq_getElem _
      generalize l[k]'(by rw [HN.out]; exact hlt) = x at hx
      obtain ⟨ad, rfl, h0⟩ := hl.int hx
      have HX := Lib.hid hx
      clear hx hl
      by_cases hs : x = 0
      · have e1 : (x != 0) = false := by rw [hs]; rfl
        have HS := Lib.hid hs
        clear hs
        go_wp2
        go_round
        case rel =>
          refine ⟨k + 1, by omega, by go_num, fun j y hj hy => ?_⟩
          rcases Nat.lt_succ_iff_lt_or_eq.1 hj with h | rfl
          · exact hn.out j y h hy
          · rw [HX.out] at hy; cases hy; exact HS.out
        case measure => simp [intOf]; omega
      · have e1 : (x != 0) = true := bne_iff_ne.2 hs
        have HV : Hid (orL l = x) := Lib.hid (orL_at HX.out hn.out hs)
        clear hs
        go_wp2
        go_ret
        exact ⟨ret_int HV.out.symm, rfl⟩
    · have HV : Hid (orL l = 0) := Lib.hid (orL_zero fun j y hy => hn.out j y (by have := (List.getElem?_eq_some_iff.1 hy).1; have := HN.out; omega) hy)
      go_wp2
      go_ret
      exact ⟨ret_int HV.out.symm, rfl⟩

theorem lit3 (a b c : Int) (w : World) : (Instr.buildSlice 70 3 #[(0, .int .i64 a), (1, .int .i64 b), (2, .int .i64 c)]).run Tryz.prog w = .ok (.slice (some ⟨w.heap.size, 0, none⟩) 3 3) (w.alloc (.cells #[.int .i64 a, .int .i64 b, .int .i64 c] 3)) := by kernel_rfl
theorem ev_lit3 {ops : Array Oper} {rest : List Oper} {a : Act} {Q : Exit → Act → World → Prop} {w : World} {d : Option Tmp} {ty : TypeId} {x1 x2 x3 : Operand} {pos : String} {af : Array Edge} {p q r : Int} (h1 : a.eval x1 = .int .i64 p) (h2 : a.eval x2 = .int .i64 q) (h3 : a.eval x3 = .int .i64 r)
    (h : ∀ g w1, w1.heap[g]? = some (.cells #[.int .i64 p, .int .i64 q, .int .i64 r] 3 (0, 0)) → Grw w w1 → wpList Tryz.prog ops Q rest (a.put d (.slice (some ⟨g, 0, none⟩) 3 3)) w1) :
    wpList Tryz.prog ops Q ({ dst := d, op := .buildSlice 70 3 #[(0, x1), (1, x2), (2, x3)], type := ty, pos := pos, after := af, guard := none } :: rest) a w := by
  refine wp_run (v := .slice (some ⟨w.heap.size, 0, none⟩) 3 3) (w1 := w.alloc (.cells #[.int .i64 p, .int .i64 q, .int .i64 r] 3)) rfl ?_ (h _ _ (blk_new w _) ((Grw.refl w).alloc _))
  simp only [execOp, List.map_toArray, List.map_cons, List.map_nil, h1, h2, h3, Sem.run_bind, lit3, Result.andThen, Sem.run_pure]
theorem rd3 {w : World} {g : Nat} {t : TypeId} {a b c : Int} (hb : w.heap[g]? = some (.cells #[.int .i64 a, .int .i64 b, .int .i64 c] t (0, 0))) : Rd elInt w (some ⟨g, 0, none⟩) [a, b, c] :=
  Rd.blk (E := elInt) (cs := [.int .i64 a, .int .i64 b, .int .i64 c]) (css := [[.int .i64 a], [.int .i64 b], [.int .i64 c]]) (ok := fun _ => True) hb rfl (by simp) (.cons rfl (.cons rfl (.cons rfl .nil)))
theorem orL_cmp (pos : Str → Int) (x y : Gp) : orL [y.wt - x.wt, x.cls - y.cls, pos x.br - pos y.br] = cmpG pos x y := by
  unfold cmpG
  simp only [orL]
  split
  · rfl
  · split
    · rfl
    · split
      · rfl
      · rename_i h; simp at h; omega
/-- A gap whose numbers are small. -/
def GpB (x : Gp) : Prop := 1 ≤ x.wt ∧ x.wt ≤ 9 ∧ 0 ≤ x.cls ∧ x.cls < 30
set_option maxRecDepth 100000 in
set_option maxHeartbeats 4000000 in
theorem order_cmp (g : Lg) (x y : Gp) (hx : GpB x) (hy : GpB y) (gb : Nat) (A0 A1 A2 : Option Addr) (c0 c1 c2 : Nat) (w : World) (hv : LgV w (.agg #[.slice A0 g.known.length c0, .slice A1 g.brs.length c1, .slice A2 g.evs.length c2]) g)
    (k0 : w.cell? ⟨gb, 0, none⟩ = some (.slice A0 g.known.length c0)) (k1 : w.cell? ⟨gb, 1, none⟩ = some (.slice A1 g.brs.length c1)) (k2 : w.cell? ⟨gb, 2, none⟩ = some (.slice A2 g.evs.length c2)) :
    Calls Tryz.prog 160 #[.agg #[.string x.br, .int .i64 x.cls, .int .i64 x.wt], .agg #[.string y.br, .int .i64 y.cls, .int .i64 y.wt], .pointer (some ⟨gb, 0, none⟩)] w fun e w' => e = .returned (.int .i64 (cmpG (idx g.brs) x y)) ∧ Grw w w' := by
  obtain ⟨bx1, bx2, bx3, bx4⟩ := hx
  obtain ⟨by1, by2, by3, by4⟩ := hy
  have HV := Lib.hid hv
  clear hv
  have HPX := Lib.hid (idx_lt g.brs x.br)
  have HPY := Lib.hid (idx_lt g.brs y.br)
  have HLB : Hid (g.brs.length ≤ 9223372036854775807) := Lib.hid (by obtain ⟨_, _, _, _, _, _, h, _, _, _, _, r1, _⟩ := HV.out.ex; cases h; exact r1.1)
  have HOR := Lib.hid (orL_cmp (idx g.brs) x y)
  go_enter Tryz.func160, Tryz.ntmps160
  go_wp2_with (with_reducible refine stop_box ?_)
  refine Stop.go ?_
  refine ev_box3G (c0 := .string x.br) (c1 := .int .i64 x.cls) (c2 := .int .i64 x.wt) rfl ?_
  intro g1 w1 he1 hg1 _ m0 m1 m2
  replace k0 := he1.ext.cell k0
  replace k1 := he1.ext.cell k1
  replace k2 := he1.ext.cell k2
  have HE1 := Lib.hid he1
  clear he1 hg1
  refine ev_box3G (c0 := .string y.br) (c1 := .int .i64 y.cls) (c2 := .int .i64 y.wt) rfl ?_
  intro g2 w2 he2 hg2 _ n0 n1 n2
  replace k0 := he2.ext.cell k0
  replace k1 := he2.ext.cell k1
  replace k2 := he2.ext.cell k2
  replace m0 := he2.ext.cell m0
  replace m1 := he2.ext.cell m1
  replace m2 := he2.ext.cell m2
  have HE2 := Lib.hid (HE1.out.trans he2)
  clear he2 hg2
  have y0 : ∀ y : Up w2, y.u.cell? _ = _ := fun y => y.ext.cell k0
  have y1 : ∀ y : Up w2, y.u.cell? _ = _ := fun y => y.ext.cell k1
  have y2 : ∀ y : Up w2, y.u.cell? _ = _ := fun y => y.ext.cell k2
  have z0 : ∀ y : Up w2, y.u.cell? _ = _ := fun y => y.ext.cell m0
  have z1 : ∀ y : Up w2, y.u.cell? _ = _ := fun y => y.ext.cell m1
  have z2 : ∀ y : Up w2, y.u.cell? _ = _ := fun y => y.ext.cell m2
  have u0 : ∀ y : Up w2, y.u.cell? _ = _ := fun y => y.ext.cell n0
  have u1 : ∀ y : Up w2, y.u.cell? _ = _ := fun y => y.ext.cell n1
  have u2 : ∀ y : Up w2, y.u.cell? _ = _ := fun y => y.ext.cell n2
  have HV2 := Lib.hid (HV.out.ext HE2.out.ext)
  generalize hpx : idx g.brs x.br = px at *
  generalize hpy : idx g.brs y.br = py at *
  have HPXE := Lib.hid hpx
  have HPYE := Lib.hid hpy
  clear hpx hpy
  go_wp2
  obtain ⟨hb1, hb1'⟩ := HPX.out
  obtain ⟨hb2, hb2'⟩ := HPY.out
  have hlb := HLB.out
  clear HPX HPY HLB
  refine wp_region_pln (Ext.refl w2) (rds [0, 1, 2, 3, 4, 5, 6, 7, 8, 9, 10, 11, 12, 14, 15, 16] (.tn 13 (.tn 17 (.rd 18 (.tn 19 (.tn 20 (.rd 21 .nil))))))) (by kernel_rfl) (by kernel_rfl) ?_
  iterate 16 ((try go_frame); refine pln_read ?_; go_big_quiet_step (fail); refine wpQuiet_nil ?_)
  have hE2 : Ext w2 w2.drew := (Ext.refl w2).drew
  refine pln_enter (F := 98) rfl (fun _ _ => by kernel_rfl) hE2 ((missing_indexG g x.br _ w2.drew (HV2.out.ext hE2)).mono ?_)
  rintro e w3 ⟨rfl, h_w3⟩
  rw [HPXE.out]
  refine ⟨_, rfl, h_w3.ext, ?_⟩
  have hE3 : Ext w2 w3 := hE2.trans h_w3.ext
  refine pln_enter (F := 98) rfl (fun _ _ => by kernel_rfl) hE3 ((missing_indexG g y.br _ w3 (HV2.out.ext hE3)).mono ?_)
  rintro e w4 ⟨rfl, h_w4⟩
  rw [HPYE.out]
  refine ⟨_, rfl, h_w4.ext, ?_⟩
  have hE4 : Ext w2 w4 := hE3.trans h_w4.ext
  ((try go_frame); refine pln_read ?_; go_big_quiet_step (fail); refine wpQuiet_nil ?_)
  refine pln_one rfl ?_
  refine ev_lit3 rfl rfl rfl ?_
  intro g5 w5 hb5 he5
  refine ⟨hE4.trans he5.ext, ?_⟩
  refine pln_enter (F := 161) rfl (fun _ _ => by kernel_rfl) (hE4.trans he5.ext) ((cmp_Or [y.wt - x.wt, x.cls - y.cls, px - py] (some ⟨g5, 0, none⟩) 3 3 w5 (rd3 hb5) rfl).mono ?_)
  rintro e w6 ⟨rfl, rfl⟩
  refine ⟨_, rfl, Ext.refl _, ?_⟩
  rw [HOR.out]
  ((try go_frame); refine pln_read ?_; go_big_quiet_step (fail); refine wpQuiet_nil ?_)
  refine pln_end ?_
  have HG5 : Hid (Grw w w5) := Lib.hid (HE2.out.trans ((Grw.refl w2).drew.trans (h_w3.trans (h_w4.trans he5))))
  clear h_w3 h_w4 he5 hb5 hE4 hE3 hE2 y0 y1 y2 z0 z1 z2 u0 u1 u2
  go_wp2
  go_ret
  exact ⟨rfl, HG5.out⟩
end Go.Proofs.YtgibdafkidkahaaGreatDoor
