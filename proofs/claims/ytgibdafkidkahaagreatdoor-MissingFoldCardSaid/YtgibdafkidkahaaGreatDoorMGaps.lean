/- Derived: walks: all gaps, and those of a branch as they were. -/
import Derived.Test.YtgibdafkidkahaaGreatDoorOrd2
set_option linter.unusedVariables false
set_option linter.unusedSimpArgs false
namespace Go.Proofs.YtgibdafkidkahaaGreatDoor
open Go.RowKit

theorem rawL_snoc (fx : List Fx) (bs : List (Str × List Int)) (p : Str × List Int) : rawL fx (bs ++ [p]) = rawL fx bs ++ gapsOf fx p.1 p.2 := by simp [rawL]
theorem rawL_take {fx : List Fx} {bs : List (Str × List Int)} {k : Nat} {p : Str × List Int} (h : bs[k]? = some p) : rawL fx (bs.take (k + 1)) = rawL fx (bs.take k) ++ gapsOf fx p.1 p.2 := by
  rw [List.take_add_one, h]
  exact rawL_snoc _ _ _
theorem rawL_len (fx : List Fx) (bs : List (Str × List Int)) : (rawL fx bs).length ≤ bs.length * fx.length := by
  induction bs using snoc_ind with
  | h0 => simp [rawL]
  | h1 bs p ih =>
    rw [rawL_snoc, List.length_append, List.length_append, List.length_singleton, Nat.add_mul, Nat.one_mul]
    have := gapsOf_len fx p.1 p.2
    omega
theorem raw_gpB {fx : List Fx} (hf : FxOk fx) {bs : List (Str × List Int)} : ∀ x ∈ rawL fx bs, GpB x := by
  intro x hx
  obtain ⟨p, _, f, h1, _, _, rfl⟩ := mem_rawL.1 hx
  have := hf.cls f h1
  have := hf.wt f h1
  unfold GpB
  simp only
  omega
theorem bsOf_get {g : Lg} {k : Nat} {x : Br} (h : g.brs[k]? = some x) : (bsOf g)[k]? = some (x.name, effectL g x.name) := by
  unfold bsOf
  rw [List.getElem?_map, h]
  rfl
theorem ordered_gaps {g : Lg} {fx : List Fx} (h : checkF g fx = 0) {ys : List Gp} (ho : Ordered g (rawL fx (bsOf g)) ys) : ys = gapsL g fx := by
  rw [gapsL_ok h]
  have hb := (checkL_zero (checkF_zero h).1).1.1.1.1.2
  exact sorted_ord (fxOk_of h) (bs_pos hb) bs_inj ho.1 ho.2
theorem ordered_one {g : Lg} {fx : List Fx} (h : checkF g fx = 0) {p : Str × List Int} {ys : List Gp} (ho : Ordered g (rawL fx [p]) ys) : ys = ordL fx [p] :=
  sorted_ord (fxOk_of h) (List.pairwise_singleton _ _) (fun a ha b hb _ => by simp at ha hb; rw [ha, hb]) ho.1 ho.2
/-- A call within a plan, that may turn what was made since the plan began. -/
theorem plan_enterW {P : Program} {ops : Array Oper} {Q : Exit → Act → World → Prop} {w0 : World} {q : List (Bool × Oper)} {a : Act} {w : World} {d : Option Tmp} {ty : TypeId} {pos : String} {af : Array Edge} {x : Operand} {xs : List Operand} {tys : Array TypeId} {F : Nat} {caps : List Value}
    (hx : a.eval x = .func (.func F) #[] caps.toArray) (hF : ∀ args w, (callFunc F args).run P w = .ok (.enter F args) w)
    (h : Calls P F (xs.map a.eval ++ caps).toArray w fun e w' => ∃ v, e = .returned v ∧ Ext w0 w' ∧ wpPlan P ops (CU w0) Q q (a.put d v) w') :
    wpPlan P ops (CU w0) Q ((false, { dst := d, op := .call { callee := .value x, args := xs.toArray, argTypes := tys }, type := ty, pos := pos, after := af, guard := none }) :: q) a w :=
  plan_call (o := { dst := d, op := .call { callee := .value x, args := xs.toArray, argTypes := tys }, type := ty, pos := pos, after := af, guard := none }) (args := (xs.map a.eval).toArray) (caps := caps.toArray) rfl rfl hx (by simp) hF
    (by rw [List.append_toArray]; exact h.mono fun e w' ⟨v, h1, h2, h3⟩ => ⟨v, h1, cu_of h2, h3⟩)
set_option maxRecDepth 100000 in
set_option maxHeartbeats 4000000 in
theorem missing_Gaps (g : Lg) (fx : List Fx) (v : Value) (A : Option Addr) (c : Nat) (w : World) (hv : LgV w v g) (hf : Rd elFx w A fx) :
    Calls Tryz.prog 29 #[v, .slice A fx.length c] w fun e w' => ∃ r, e = .returned (.tuple #[r, .int .i64 (checkF g fx)]) ∧ Own elGp 62 w.heap.size w' r (gapsL g fx) ∧ Ext w w' := by
  obtain ⟨A0, c0, A1, c1, A2, c2, rfl, h0, h1, h2, r0, r1, r2⟩ := hv.ex
  by_cases hck : checkF g fx = 0
  · have hb8 : g.brs.length ≤ 8 := (checkB_zero (checkL_zero (checkF_zero hck).1).1.1.1.1.2).1
    have hf30 := (checkF_zero hck).2.1
    have HCK := Lib.hid hck
    rw [hck]
    clear hck
    go_enter Tryz.func29, Tryz.ntmps29
    go_wp2_with (with_reducible refine stop_box ?_)
    refine Stop.go ?_
    refine ev_box3 (c0 := .slice A0 g.known.length c0) (c1 := .slice A1 g.brs.length c1) (c2 := .slice A2 g.evs.length c2) rfl ?_
    intro g1 w1 hb_g1 he hg_g1 k0 k1 k2
    have HE := Lib.hid he
    have HV := Lib.hid (hv.ext he)
    have RF := Lib.hid (hf.ext he)
    have R1 := Lib.hid (r1.ext he)
    clear he r0 r1 r2 hv hf hb_g1 hg_g1
    go_wp2_with fail
    refine (missing_Check g fx _ A c w1 HV.out RF.out).mono ?_
    rintro e w2 ⟨rfl, he2⟩
    rw [HCK.out]
    have HE2 := Lib.hid he2
    clear he2
    have k1' := HE2.out.cell k1
    go_wp2
    go_loopw [7, 21] (fun o i wr => ∃ k : Nat, k ≤ g.brs.length ∧ i = .int .i64 (k : Int) ∧ Hid (Own elGp 62 w1.heap.size wr o (rawL fx ((bsOf g).take k))) ∧ Hid (Ext w1 wr)) (fun _ i _ => g.brs.length - (intOf i).toNat)
    case atStart => exact ⟨0, Nat.zero_le _, rfl, by rw [List.take_zero]; exact Own.nil _ _ _ _, HE2.out⟩
    case round =>
      clear k1'
      obtain ⟨k, hk, rfl, HO, hE⟩ := hrel
      by_cases hlt : k < g.brs.length
      · have hx : g.brs[k]? = some g.brs[k] := List.getElem?_eq_getElem hlt
        generalize g.brs[k] = x at hx
        obtain ⟨ad, e0, q0, q1, q2⟩ := (R1.out.ext hE.out).br hx
        cases e0
        have HT := Lib.hid (rawL_take (fx := fx) (bsOf_get hx))
        have hlen := rawL_len fx ((bsOf g).take k)
        have HLN : Hid ((rawL fx ((bsOf g).take k)).length + fx.length < 1000000) := Lib.hid (by
          have h1 : ((bsOf g).take k).length ≤ 8 := by rw [List.length_take]; omega
          have h2 : ((bsOf g).take k).length * fx.length ≤ 8 * 30 := Nat.mul_le_mul h1 hf30
          omega)
        clear hx hlen
        go_wp2_with (first | ((with_reducible refine ev_var (v := .agg #[.string x.name, .string x.frm, .int .i64 x.at_]) _ zBr ?hd ?hx ?hs ?h1 ?_); (case hd => exact fun _ => rfl); (case hx => exact fun _ => rfl); (case hs => rfl); (case h1 => exact one3 rfl rfl rfl); intro gx w4 hb he4 hgx; have m0 := (blk_cell hb 0).trans rfl; have HE4 := Lib.hid he4; have HE14 := Lib.hid (hE.out.trans he4); have p0 := HE14.out.cell k0; have p1 := HE14.out.cell k1; have p2 := HE14.out.cell k2; clear hb he4 hgx))
        have HO4 := Lib.hid (HO.out.ext HE4.out)
        clear HO HE4 q0 q1 q2
        refine (ledger_Effect g x.name _ w4 (HV.out.ext HE14.out)).mono ?_
        rintro e w5 ⟨r, rfl, hin, he5⟩
        obtain ⟨A5, c5, rfl, hc5, hr5⟩ := hin.sl
        replace m0 := he5.cell m0
        have hga : GapsAt w1 w4.heap.size (effectL g x.name) (.slice A5 (effectL g x.name).length c5) w5 _ (rawL fx ((bsOf g).take k)) := ⟨HO4.out.ext he5, hin, fun j hj e => by have h1 := (HO4.out.blk j hj).2; have h2 := (hin.blk j e).1; omega, HE14.out.trans he5⟩
        have HGA := Lib.hid (missing_gaps fx x.name (effectL g x.name) _ _ A A5 c c5 _ w1 w5 RF.out hga HLN.out)
        clear hga hin he5 hc5 hr5 HO4 HE14 p0 p1 p2
        go_wp2_with fail
        refine HGA.out.mono ?_
        rintro e w6 ⟨r, rfl, hown, he6⟩
        have HO6 : Hid (Own elGp 62 w1.heap.size w6 r (rawL fx ((bsOf g).take (k + 1)))) := Lib.hid (by rw [HT.out]; exact hown)
        have HE6 := Lib.hid he6
        clear hown he6 HGA m0
        go_wp2
        go_roundw
        case rel => exact ⟨k + 1, by omega, by go_num, HO6.out, HE6.out⟩
        case measure => simp [intOf]; omega
      · have HO2 : Hid (Own elGp 62 w1.heap.size wr _ (rawL fx (bsOf g))) := Lib.hid (by have := HO.out; rw [List.take_of_length_le (by simp [bsOf]; omega)] at this; exact this)
        have p0 := hE.out.cell k0
        have p1 := hE.out.cell k1
        have p2 := hE.out.cell k2
        clear HO
        obtain ⟨A6, c6, rfl, _⟩ := HO2.out.form
        have hlen := rawL_len fx (bsOf g)
        have HLN : Hid ((rawL fx (bsOf g)).length < 1000000) := Lib.hid (by
          have h1 : (bsOf g).length ≤ 8 := by simp [bsOf]; omega
          have h2 : (bsOf g).length * fx.length ≤ 8 * 30 := Nat.mul_le_mul h1 hf30
          omega)
        have HC := Lib.hid (missing_order g (rawL fx (bsOf g)) _ A6 c6 w1 wr HV.out hE.out HO2.out (raw_gpB (fxOk_of HCK.out)) HLN.out)
        clear hlen HO2
        go_wp2_with fail
        refine HC.out.mono ?_
        rintro e w7 ⟨ys, rfl, hord, hown, he7⟩
        have HY := Lib.hid (ordered_gaps HCK.out hord)
        have HOW := Lib.hid (hown.lower HE.out.size)
        have HE7 := Lib.hid (HE.out.trans he7)
        clear hord hown he7 HC
        go_wp2
        go_ret2
        exact ⟨_, rfl, by rw [← HY.out]; exact HOW.out, HE7.out⟩
  · have e9 : (checkF g fx != 0) = true := bne_iff_ne.2 hck
    rw [gapsL_nil hck]
    have HC : Hid (∀ w2, Ext w w2 → _) := Lib.hid fun w2 (he : Ext w w2) => missing_Check g fx _ A c w2 (hv.ext he) (hf.ext he)
    clear hck
    generalize checkF g fx = z at *
    go_enter Tryz.func29, Tryz.ntmps29
    go_wp2_with (with_reducible refine stop_box ?_)
    refine Stop.go ?_
    refine ev_box3 (c0 := .slice A0 g.known.length c0) (c1 := .slice A1 g.brs.length c1) (c2 := .slice A2 g.evs.length c2) rfl ?_
    intro g1 w1 hb_g1 he hg_g1 k0 k1 k2
    have HE_w1 := Lib.hid he
    clear he r0 r1 r2 hv hf hb_g1 hg_g1
    go_wp2_with fail
    refine (HC.out  w1 HE_w1.out).mono ?_
    rintro e w2 ⟨rfl, he_w2⟩
    replace k0 := he_w2.cell k0
    replace k1 := he_w2.cell k1
    replace k2 := he_w2.cell k2
    have HE_w2 : Hid (Ext w w2) := Lib.hid (HE_w1.out.trans he_w2)
    clear he_w2 HE_w1
    go_wp2
    go_ret2
    exact ⟨_, rfl, Own.nil _ _ _ _, HE_w2.out⟩
theorem thenE_bad {g : Lg} {fx : List Fx} {nm : Str} {n : Int} (h : checkF g fx ≠ 0) : thenE g fx nm n = checkF g fx := if_pos h
theorem thenE_ok {g : Lg} {fx : List Fx} {nm : Str} {n : Int} (h : checkF g fx = 0) : thenE g fx nm n = afterErr g nm n := by rw [thenE, if_neg (by simp [h])]
theorem thenL_nil {g : Lg} {fx : List Fx} {nm : Str} {n : Int} (h : thenE g fx nm n ≠ 0) : thenL g fx nm n = [] := if_neg h
theorem thenL_ok {g : Lg} {fx : List Fx} {nm : Str} {n : Int} (h : thenE g fx nm n = 0) : thenL g fx nm n = ordL fx [(nm, afterL g nm n)] := if_pos h
theorem rawL_one (fx : List Fx) (p : Str × List Int) : rawL fx [p] = [] ++ gapsOf fx p.1 p.2 := by simp [rawL]
set_option maxRecDepth 100000 in
set_option maxHeartbeats 4000000 in
theorem missing_Then (g : Lg) (fx : List Fx) (nm : Str) (n : Int) (v : Value) (A : Option Addr) (c : Nat) (w : World) (hv : LgV w v g) (hf : Rd elFx w A fx) :
    Calls Tryz.prog 16 #[v, .slice A fx.length c, .string nm, .int .i64 n] w fun e w' => ∃ r, e = .returned (.tuple #[r, .int .i64 (thenE g fx nm n)]) ∧ Own elGp 62 w.heap.size w' r (thenL g fx nm n) ∧ Ext w w' := by
  obtain ⟨A0, c0, A1, c1, A2, c2, rfl, h0, h1, h2, r0, r1, r2⟩ := hv.ex
  by_cases hck : checkF g fx = 0
  · have hf30 := (checkF_zero hck).2.1
    have HCK := Lib.hid hck
    have HTE := Lib.hid (thenE_ok (nm := nm) (n := n) hck)
    rw [HTE.out]
    clear hck
    go_enter Tryz.func16, Tryz.ntmps16
    go_wp2_with (with_reducible refine stop_box ?_)
    refine Stop.go ?_
    refine ev_box3 (c0 := .slice A0 g.known.length c0) (c1 := .slice A1 g.brs.length c1) (c2 := .slice A2 g.evs.length c2) rfl ?_
    intro g1 w1 hb_g1 he hg_g1 k0 k1 k2
    have HE := Lib.hid he
    have HV := Lib.hid (hv.ext he)
    have RF := Lib.hid (hf.ext he)
    clear he r0 r1 r2 hv hf hb_g1 hg_g1
    go_wp2_with fail
    refine (missing_Check g fx _ A c w1 HV.out RF.out).mono ?_
    rintro e w2 ⟨rfl, he2⟩
    rw [HCK.out]
    replace k0 := he2.cell k0
    replace k1 := he2.cell k1
    replace k2 := he2.cell k2
    have HE2 := Lib.hid (HE.out.trans he2)
    have HV2 := Lib.hid (HV.out.ext he2)
    have RF2 := Lib.hid (RF.out.ext he2)
    clear he2 HV RF HE
    go_wp2_with fail
    refine (ledger_After g nm n _ w2 HV2.out).mono ?_
    rintro e w3 ⟨r, rfl, hin, he3⟩
    obtain ⟨A5, c5, rfl, hc5, hr5⟩ := hin.sl
    replace k0 := he3.cell k0
    replace k1 := he3.cell k1
    replace k2 := he3.cell k2
    have HE3 := Lib.hid (HE2.out.trans he3)
    have HV3 := Lib.hid (HV2.out.ext he3)
    have RF3 := Lib.hid (RF2.out.ext he3)
    have HIN := Lib.hid hin
    clear he3 hin hc5 hr5 HV2 RF2
    by_cases hae : afterErr g nm n = 0
    · have HTL : Hid (thenL g fx nm n = ordL fx [(nm, afterL g nm n)]) := Lib.hid (thenL_ok (by rw [HTE.out]; exact hae))
      have HAE := Lib.hid hae
      rw [hae]
      clear hae
      have y0 : ∀ y : Up w3, y.u.cell? _ = _ := fun y => y.ext.cell k0
      have y1 : ∀ y : Up w3, y.u.cell? _ = _ := fun y => y.ext.cell k1
      have y2 : ∀ y : Up w3, y.u.cell? _ = _ := fun y => y.ext.cell k2
      go_wp2
      refine wp_region_planU [(true, 0), (true, 1), (true, 2), (true, 3), (false, 4), (false, 5), (true, 6), (true, 7)] (by kernel_rfl) (by kernel_rfl) ?_
      iterate 4 ((try go_frame); refine plan_read ?_; go_big_quiet_step (fail); refine wpQuiet_nil ?_)
      have hE3 : Ext w3 w3.drew := (Ext.refl w3).drew
      refine plan_enterW (F := 76) rfl (fun _ _ => by kernel_rfl) ((missing_gaps fx nm (afterL g nm n) (.slice none 0 0) [] A A5 c c5 w2.heap.size w3 w3.drew RF3.out ⟨Own.nil _ _ _ _, HIN.out.ext hE3, fun j hj => by simp [Value.ownBlock] at hj, hE3⟩ (by simp; omega)).mono ?_)
      rintro e w4 ⟨r, rfl, hown, he4⟩
      rw [← rawL_one fx (nm, afterL g nm n)] at hown
      obtain ⟨A6, c6, rfl, _⟩ := hown.form
      have hlen := rawL_len fx [(nm, afterL g nm n)]
      refine ⟨_, rfl, he4, ?_⟩
      refine plan_enterW (F := 75) rfl (fun _ _ => by kernel_rfl) ((missing_order g _ _ A6 c6 w3 w4 HV3.out he4 hown (raw_gpB (fxOk_of HCK.out)) (by simp at hlen; omega)).mono ?_)
      rintro e w5 ⟨ys, rfl, hord, hown5, he5⟩
      refine ⟨_, rfl, he5, ?_⟩
      iterate 2 ((try go_frame); refine plan_read ?_; go_big_quiet_step (fail); refine wpQuiet_nil ?_)
      refine plan_end ?_
      have HY := Lib.hid (ordered_one HCK.out hord)
      have HOW := Lib.hid (hown5.lower HE3.out.size)
      have HE5 := Lib.hid (HE3.out.trans he5)
      clear hord hown hown5 he4 he5 hlen y0 y1 y2 hE3
      go_wp2
      go_ret2
      rw [HAE.out]
      exact ⟨_, rfl, by rw [HTL.out, ← HY.out]; exact HOW.out, HE5.out⟩
    · have HTL : Hid (thenL g fx nm n = []) := Lib.hid (thenL_nil (by rw [HTE.out]; exact hae))
      have e9 : (afterErr g nm n != 0) = true := bne_iff_ne.2 hae
      clear hae
      generalize hz : afterErr g nm n = z at *
      have HZ := Lib.hid hz
      clear hz
      go_wp2
      go_ret2
      rw [HTL.out, HZ.out]
      exact ⟨_, rfl, Own.nil _ _ _ _, HE3.out⟩
  · have e9 : (checkF g fx != 0) = true := bne_iff_ne.2 hck
    rw [thenE_bad hck, thenL_nil (by rw [thenE_bad hck]; exact hck)]
    have HC : Hid (∀ w2, Ext w w2 → _) := Lib.hid fun w2 (he : Ext w w2) => missing_Check g fx _ A c w2 (hv.ext he) (hf.ext he)
    clear hck
    generalize checkF g fx = z at *
    go_enter Tryz.func16, Tryz.ntmps16
    go_wp2_with (with_reducible refine stop_box ?_)
    refine Stop.go ?_
    refine ev_box3 (c0 := .slice A0 g.known.length c0) (c1 := .slice A1 g.brs.length c1) (c2 := .slice A2 g.evs.length c2) rfl ?_
    intro g1 w1 hb_g1 he hg_g1 k0 k1 k2
    have HE_w1 := Lib.hid he
    clear he r0 r1 r2 hv hf hb_g1 hg_g1
    go_wp2_with fail
    refine (HC.out  w1 HE_w1.out).mono ?_
    rintro e w2 ⟨rfl, he_w2⟩
    replace k0 := he_w2.cell k0
    replace k1 := he_w2.cell k1
    replace k2 := he_w2.cell k2
    have HE_w2 : Hid (Ext w w2) := Lib.hid (HE_w1.out.trans he_w2)
    clear he_w2 HE_w1
    go_wp2
    go_ret2
    exact ⟨_, rfl, Own.nil _ _ _ _, HE_w2.out⟩
end Go.Proofs.YtgibdafkidkahaaGreatDoor
