/- Derived: walks: the reference of layer 34: gaps of a branch as they were; texts; comparisons. -/
import Derived.Test.YtgibdafkidkahaaGreatDoorRef34C
import Derived.Laws.StructEq
set_option linter.unusedVariables false
set_option linter.unusedSimpArgs false
namespace Go.Proofs.YtgibdafkidkahaaGreatDoor
open Go.RowKit

theorem eqGp (x y : Gp) (w : World) : (Op.equalIn 10000 62 (.agg #[.string x.br, .int .i64 x.cls, .int .i64 x.wt]) (.agg #[.string y.br, .int .i64 y.cls, .int .i64 y.wt])).run Tryz.prog w = .ok (decide (x = y)) w := by
  have hS : Tryz.prog.underlying 62 = some (.struct (Tryz.prog.fieldsOf 62)) := by kernel_rfl
  have hp : Tryz.prog.stoodInHeld 62 = false := by kernel_rfl
  have u9 := Tryz.underlying9
  have u3 := Tryz.underlying3
  have a9 := Tryz.isAgg9
  have a3 := Tryz.isAgg3
  have z9 := Tryz.sizeOf9
  have z3 := Tryz.sizeOf3
  rw [show (10000 : Nat) = 9999 + 1 from rfl, run_equalIn_agg w 9999 62 _ _ hS hp]
  simp only [Program.fieldsOf, Tryz.underlying62]
  go_simp
  obtain ⟨b, c, t⟩ := x
  obtain ⟨b', c', t'⟩ := y
  have e1 : (b.toList = b'.toList) ↔ b = b' := ⟨ba_ext, fun h => by rw [h]⟩
  simp only [Gp.mk.injEq]
  by_cases h1 : b = b' <;> by_cases h2 : c = c' <;> by_cases h3 : t = t' <;> simp [e1, h1, h2, h3]
theorem neqGp (x y : Gp) (w : World) : (binOp .neq 62 (.agg #[.string x.br, .int .i64 x.cls, .int .i64 x.wt]) (.agg #[.string y.br, .int .i64 y.cls, .int .i64 y.wt])).run Tryz.prog w = .ok (.bool (decide (x ≠ y))) w := by
  rw [run_neq_struct, eqGp]
  by_cases h : x = y <;> simp [h, Result.andThen]

/-- A slice of one element. -/
theorem ev_lit {P : Program} {ops : Array Oper} {rest : List Oper} {a : Act} {Q : Exit → Act → World → Prop} {w : World} {d : Option Tmp} {t e ty : TypeId} {x : Operand} {y : Value} {pos : String} {af : Array Edge} (hx : a.eval x = y)
    (hbs : ∀ w, (Instr.buildSlice t 1 #[(0, y)]).run P w = .ok (.slice (some ⟨w.heap.size, 0, none⟩) 1 1) (w.alloc (.cells y.cells e)))
    (h : ∀ g w1, w1.heap[g]? = some (.cells y.cells e (0, 0)) → Ext w w1 → wpList P ops Q rest (a.put d (.slice (some ⟨g, 0, none⟩) 1 1)) w1) :
    wpList P ops Q ({ dst := d, op := .buildSlice t 1 #[(0, x)], type := ty, pos := pos, after := af, guard := none } :: rest) a w := by
  refine wp_run (v := .slice (some ⟨w.heap.size, 0, none⟩) 1 1) (w1 := w.alloc (.cells y.cells e)) rfl ?_ (h _ _ (blk_new w _) ((Ext.refl w).alloc _))
  simp only [execOp, List.map_toArray, List.map_cons, List.map_nil, hx, Sem.run_bind, hbs, Result.andThen, Sem.run_pure]
theorem rd_str1 {w : World} {g : Nat} {t : TypeId} {s : Str} (hb : w.heap[g]? = some (.cells #[.string s] t (0, 0))) : Rd elStr w (some ⟨g, 0, none⟩) [s] :=
  Rd.blk (E := elStr) (cs := [.string s]) (css := [[.string s]]) (ok := fun _ => True) hb rfl (by simp) (.cons rfl .nil)
theorem rd_ints1 {B : Nat} {w : World} {g : Nat} {t : TypeId} {A : Option Addr} {c : Nat} {l : List Int} (hb : w.heap[g]? = some (.cells #[.slice A l.length c] t (0, 0))) (ho : Own elInt 3 B w (.slice A l.length c) l) : Rd (El.sl elInt) w (some ⟨g, 0, none⟩) [l] :=
  Rd.blk (E := El.sl elInt) (cs := [.slice A l.length c]) (css := [[.slice A l.length c]]) hb rfl (by simp) (.cons ho.k .nil)
set_option maxRecDepth 100000 in
set_option maxHeartbeats 4000000 in
theorem ref34_Then (g : Lg) (fx : List Fx) (nm : Str) (n : Int) (v : Value) (A : Option Addr) (c : Nat) (w : World) (hv : LgV w v g) (hf : Rd elFx w A fx) :
    Calls Tryz.prog 17 #[v, .slice A fx.length c, .string nm, .int .i64 n] w fun e w' => ∃ r, e = .returned (.tuple #[r, .int .i64 (thenE g fx nm n)]) ∧ Own elGp 62 w.heap.size w' r (thenL g fx nm n) ∧ Ext w w' := by
  obtain ⟨A0, c0, A1, c1, A2, c2, rfl, h0, h1, h2, r0, r1, r2⟩ := hv.ex
  by_cases hck : checkF g fx = 0
  · have hf30 := (checkF_zero hck).2.1
    have HCK := Lib.hid hck
    have HTE := Lib.hid (thenE_ok (nm := nm) (n := n) hck)
    rw [HTE.out]
    clear hck
    go_enter Tryz.func17, Tryz.ntmps17
    go_wp2_with (with_reducible refine stop_box ?_)
    refine Stop.go ?_
    refine ev_box3 (c0 := .slice A0 g.known.length c0) (c1 := .slice A1 g.brs.length c1) (c2 := .slice A2 g.evs.length c2) rfl ?_
    intro g1 w1 hb_g1 he hg_g1 k0 k1 k2
    have HE := Lib.hid he
    have HV := Lib.hid (hv.ext he)
    have RF := Lib.hid (hf.ext he)
    clear he r0 r1 r2 hv hf hb_g1 hg_g1
    go_wp2_with fail
    refine (ref34_Check g fx _ A c w1 HV.out RF.out).mono ?_
    rintro e w2 ⟨rfl, he2⟩
    rw [HCK.out]
    replace k0 := he2.cell k0
    replace k1 := he2.cell k1
    replace k2 := he2.cell k2
    have HE2 := Lib.hid (HE.out.trans he2)
    have HV2 := Lib.hid (HV.out.ext he2)
    have RF2 := Lib.hid (RF.out.ext he2)
    clear he2 HV RF HE
    go_wp2_with fail
    refine (ref29_After g nm n _ w2 HV2.out).mono ?_
    rintro e w3 ⟨r, rfl, hin, he3⟩
    obtain ⟨A5, c5, rfl, hc5, hr5⟩ := hin.sl
    replace k0 := he3.cell k0
    replace k1 := he3.cell k1
    replace k2 := he3.cell k2
    have HE3 := Lib.hid (HE2.out.trans he3)
    have HV3 := Lib.hid (HV2.out.ext he3)
    have RF3 := Lib.hid (RF2.out.ext he3)
    have HIN := Lib.hid hin
    clear he3 hin hc5 hr5 HV2 RF2
    by_cases hae : afterErr g nm n = 0
    · have HTL : Hid (thenL g fx nm n = ordL fx [(nm, afterL g nm n)]) := Lib.hid (thenL_ok (by rw [HTE.out]; exact hae))
      have HAE := Lib.hid hae
      rw [hae]
      clear hae
      go_wp2_with (with_reducible refine stop_lit ?_)
      refine Stop.go ?_
      refine ev_lit (y := .string nm) rfl (litStr nm) ?_
      intro g4 w4 hb4 he4
      have HB4 := Lib.hid hb4
      have HE4 := Lib.hid he4
      clear hb4 he4
      go_wp2_with (with_reducible refine stop_lit ?_)
      refine Stop.go ?_
      refine ev_lit (y := .slice A5 (afterL g nm n).length c5) rfl (litInts A5 (afterL g nm n).length c5) ?_
      intro g5 w5 hb5 he5
      have hE35 := HE4.out.trans he5
      have HC := Lib.hid (ref34_ordered g fx [(nm, afterL g nm n)] _ A (some ⟨g4, 0, none⟩) (some ⟨g5, 0, none⟩) c 1 1 1 w5 (HV3.out.ext hE35) (RF3.out.ext hE35) (rd_str1 (he5.blk HB4.out)) (rd_ints1 hb5 (HIN.out.ext hE35)) rfl hf30 (by omega))
      have HE5 := Lib.hid (HE3.out.trans hE35)
      clear hb5 he5 hE35 HB4 HE4 k0 k1 k2
      go_wp2_with fail
      refine HC.out.mono ?_
      rintro e w6 ⟨r, rfl, hown, he6⟩
      have HO := Lib.hid (hown.lower HE5.out.size)
      have HE6 := Lib.hid (HE5.out.trans he6)
      clear hown he6 HC
      go_wp2
      go_ret2
      rw [HAE.out]
      exact ⟨_, rfl, by rw [HTL.out]; exact HO.out, HE6.out⟩
    · have HTL : Hid (thenL g fx nm n = []) := Lib.hid (thenL_nil (by rw [HTE.out]; exact hae))
      have e9 : (afterErr g nm n != 0) = true := bne_iff_ne.2 hae
      clear hae
      generalize hz : afterErr g nm n = z at *
      have HZ := Lib.hid hz
      clear hz
      go_wp2
      go_ret2
      rw [HTL.out, HZ.out]
      exact ⟨_, rfl, Own.nil _ _ _ _, HE3.out⟩
  · have e9 : (checkF g fx != 0) = true := bne_iff_ne.2 hck
    rw [thenE_bad hck, thenL_nil (by rw [thenE_bad hck]; exact hck)]
    have HC : Hid (∀ w2, Ext w w2 → _) := Lib.hid fun w2 (he : Ext w w2) => ref34_Check g fx _ A c w2 (hv.ext he) (hf.ext he)
    clear hck
    generalize checkF g fx = z at *
    go_enter Tryz.func17, Tryz.ntmps17
    go_wp2_with (with_reducible refine stop_box ?_)
    refine Stop.go ?_
    refine ev_box3 (c0 := .slice A0 g.known.length c0) (c1 := .slice A1 g.brs.length c1) (c2 := .slice A2 g.evs.length c2) rfl ?_
    intro g1 w1 hb_g1 he hg_g1 k0 k1 k2
    have HE_w1 := Lib.hid he
    clear he r0 r1 r2 hv hf hb_g1 hg_g1
    go_wp2_with fail
    refine (HC.out  w1 HE_w1.out).mono ?_
    rintro e w2 ⟨rfl, he_w2⟩
    replace k0 := he_w2.cell k0
    replace k1 := he_w2.cell k1
    replace k2 := he_w2.cell k2
    have HE_w2 : Hid (Ext w w2) := Lib.hid (HE_w1.out.trans he_w2)
    clear he_w2 HE_w1
    go_wp2_with fail
    refine (HC.out  w2 HE_w2.out).mono ?_
    rintro e w3 ⟨rfl, he_w3⟩
    have HE_w3 : Hid (Ext w w3) := Lib.hid (HE_w2.out.trans he_w3)
    clear he_w3 HE_w2
    go_wp2
    go_ret2
    exact ⟨_, rfl, Own.nil _ _ _ _, HE_w3.out⟩

/-- Two readings of one list of gaps are the same. -/
theorem ref34_Same (xs ys : List Gp) (A B : Option Addr) (c d : Nat) (w : World) (hx : Rd elGp w A xs) (hy : Rd elGp w B ys) :
    Calls Tryz.prog 20 #[.slice A xs.length c, .slice B ys.length d] w fun e w' => e = .returned (.bool (decide (xs = ys))) ∧ Ext w w' := by
  have hm := hx.1
  have hm2 := hy.1
  by_cases hl : xs.length = ys.length
  · obtain ⟨n, hn⟩ : ∃ n, n = xs.length := ⟨_, rfl⟩
    have HL1 := Lib.hid hn
    have HL2 : Hid (n = ys.length) := Lib.hid (hn.trans hl)
    rw [← hn] at hm ⊢
    rw [← hl, ← hn]
    clear hl hn hm2
    have e0 : ((n : Int) != (n : Int)) = false := by simp
    go_enter Tryz.func20, Tryz.ntmps20
    go_wp2
    go_loopw [5] (fun i wr => ∃ k : Nat, k ≤ n ∧ i = .int .i64 k ∧ Hid (∀ j : Nat, j < k → xs[j]? = ys[j]?) ∧ Hid (Ext w wr)) (fun i _ => n - (intOf i).toNat)
    case atStart => exact ⟨0, Nat.zero_le _, rfl, fun j hj => absurd hj (by omega), Ext.refl _⟩
    case round =>
      obtain ⟨k, hk, rfl, hn, hE⟩ := hrel
      by_cases hlt : k < n
      · have h1 : xs[k]? = some (xs[k]'(by rw [← HL1.out]; exact hlt)) := List.getElem?_eq_getElem _
        have h2 : ys[k]? = some (ys[k]'(by rw [← HL2.out]; exact hlt)) := List.getElem?_eq_getElem _
        generalize xs[k]'(by rw [← HL1.out]; exact hlt) = x at h1
        generalize ys[k]'(by rw [← HL2.out]; exact hlt) = y at h2
        obtain ⟨ad, rfl, q0, q1, q2⟩ := (hx.ext hE.out).gp h1
        obtain ⟨bd, rfl, p0, p1, p2⟩ := (hy.ext hE.out).gp h2
        have H1 := Lib.hid h1
        have H2 := Lib.hid h2
        obtain ⟨xb, xc, xt⟩ := x
        obtain ⟨yb, yc, yt⟩ := y
        simp only at q0 q1 q2 p0 p1 p2
        clear h1 h2 hx hy
        have y0 : ∀ y : Up wr, y.u.cell? _ = _ := fun y => y.ext.cell q0
        have y1 : ∀ y : Up wr, y.u.cell? _ = _ := fun y => y.ext.cell q1
        have y2 : ∀ y : Up wr, y.u.cell? _ = _ := fun y => y.ext.cell q2
        have z0 : ∀ y : Up wr, y.u.cell? _ = _ := fun y => y.ext.cell p0
        have z1 : ∀ y : Up wr, y.u.cell? _ = _ := fun y => y.ext.cell p1
        have z2 : ∀ y : Up wr, y.u.cell? _ = _ := fun y => y.ext.cell p2
        clear q0 q1 q2 p0 p1 p2
        have HF : Hid ((⟨xb, xc, xt⟩ : Gp) ≠ ⟨yb, yc, yt⟩ → decide (xs = ys) = false) := Lib.hid fun hs => decide_eq_false (fun h => by rw [h] at H1; exact hs (by have := H1.out.symm.trans H2.out; simpa using this))
        go_wp2
        by_cases s1 : xb = yb
        · subst s1
          by_cases s2 : xc = yc
          · subst s2
            by_cases s3 : xt = yt
            · subst s3
              refine wp_region_planU [(true, 0), (true, 1), (true, 2), (true, 3), (true, 4), (true, 5), (true, 6), (true, 7), (true, 8)] (by kernel_rfl) (by kernel_rfl) ?_
              iterate 9 ((try go_frame); refine plan_read ?_; go_big_quiet_step (fail); refine wpQuiet_nil ?_)
              refine plan_end ?_
              have HE2 := Lib.hid hE.out.drew
              clear y0 y1 y2 z0 z1 z2
              go_wp2
              go_roundw
              case rel =>
                refine ⟨k + 1, by omega, by go_num, fun j hj => ?_, HE2.out⟩
                rcases Nat.lt_succ_iff_lt_or_eq.1 hj with h | rfl
                · exact hn.out j h
                · rw [H1.out, H2.out]
              case measure => simp [intOf]; omega
            · have HR := Lib.hid (HF.out (by simpa using s3))
              refine wp_region_planU [(true, 0), (true, 1), (true, 2), (true, 3), (true, 4), (true, 5), (true, 6), (true, 7), (true, 8)] (by kernel_rfl) (by kernel_rfl) ?_
              iterate 9 ((try go_frame); refine plan_read ?_; go_big_quiet_step (fail); refine wpQuiet_nil ?_)
              refine plan_end ?_
              have HE2 := Lib.hid hE.out.drew
              clear y0 y1 y2 z0 z1 z2
              go_wp2
              go_ret
              exact ⟨ret_bool HR.out.symm, HE2.out⟩
          · have HR := Lib.hid (HF.out (by simp [s2]))
            refine wp_region_planU [(true, 0), (true, 1), (true, 2), (true, 3), (true, 4), (true, 5), (true, 6), (true, 7), (true, 8)] (by kernel_rfl) (by kernel_rfl) ?_
            iterate 9 ((try go_frame); refine plan_read ?_; go_big_quiet_step (fail); refine wpQuiet_nil ?_)
            refine plan_end ?_
            have HE2 := Lib.hid hE.out.drew
            clear y0 y1 y2 z0 z1 z2
            go_wp2
            go_ret
            exact ⟨ret_bool HR.out.symm, HE2.out⟩
        · have HR := Lib.hid (HF.out (by simp [s1]))
          have e1 : ¬ (xb.toList = yb.toList) := fun h => s1 (ba_ext h)
          clear s1
          refine wp_region_planU [(true, 0), (true, 1), (true, 2), (true, 3), (true, 4), (true, 5), (true, 6), (true, 7), (true, 8)] (by kernel_rfl) (by kernel_rfl) ?_
          iterate 9 ((try go_frame); refine plan_read ?_; go_big_quiet_step (fail); refine wpQuiet_nil ?_)
          refine plan_end ?_
          have HE2 := Lib.hid hE.out.drew
          clear y0 y1 y2 z0 z1 z2
          go_wp2
          go_ret
          exact ⟨ret_bool HR.out.symm, HE2.out⟩
      · have HR : Hid (decide (xs = ys) = true) := Lib.hid (decide_eq_true (List.ext_getElem? fun j => by
          by_cases hj : j < k
          · exact hn.out j hj
          · rw [List.getElem?_eq_none (by rw [← HL1.out]; omega), List.getElem?_eq_none (by rw [← HL2.out]; omega)]))
        go_wp2
        go_ret
        exact ⟨ret_bool HR.out.symm, hE.out⟩
  · have HR : Hid (decide (xs = ys) = false) := Lib.hid (decide_eq_false (fun h => hl (by rw [h])))
    have e0 : ((xs.length : Int) != (ys.length : Int)) = true := by rw [bne_iff_ne]; omega
    clear hl
    go_enter Tryz.func20, Tryz.ntmps20
    go_wp2
    go_ret
    exact ⟨ret_bool HR.out.symm, Ext.refl _⟩
end Go.Proofs.YtgibdafkidkahaaGreatDoor
