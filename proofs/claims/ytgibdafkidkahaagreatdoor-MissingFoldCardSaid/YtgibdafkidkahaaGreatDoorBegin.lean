/- Derived: walks: the state with which the own events of a branch begin. -/
import Derived.Test.YtgibdafkidkahaaGreatDoorFold
set_option linter.unusedVariables false
set_option linter.unusedSimpArgs false
namespace Go.Proofs.YtgibdafkidkahaaGreatDoor
open Go.RowKit

theorem vpre_len {l : List Br} (hl : checkB l = 0) {cnt : List Int} {i : Nat} {x : Br} (hx : l[i]? = some x) (hv : vok l cnt i = true) : ((vpre l cnt i).length : Int) = x.at_ := by
  have hg : l.getD i default = x := by rw [List.getD_eq_getElem?_getD, hx]; rfl
  have hr := at_range hl hx
  unfold vpre
  by_cases h0 : i = 0
  · rw [if_pos h0, (hr.2.2 h0).1]; rfl
  · rw [if_neg h0, List.length_take, hg]
    simp only [vok, h0, decide_false, Bool.false_or, decide_eq_true_eq, hg] at hv
    omega
theorem vpre_take {l : List Br} (hl : checkB l = 0) {cnt : List Int} {i : Nat} {x : Br} (hx : l[i]? = some x) (hv : vok l cnt i = true) {m : Nat} (hm : x.at_ = m) : (vw l cnt i).take m = vpre l cnt i := by
  have h := vpre_len hl hx hv
  rw [vw_eq, List.take_append_of_le_length (by omega), List.take_of_length_le (by omega)]

set_option maxRecDepth 100000 in
set_option maxHeartbeats 4000000 in
theorem ledger_begin (g : Lg) (i : Nat) (bm : Nat) (gv : Value) (w : World) (hv : LgV w gv g) (h6 : S6 g) (hi : i < g.brs.length) (hmap : MapSI w bm (clsMap g.known)) (hok : ∀ m ∈ vpre g.brs (cnts g) i, MkCls g m) :
    Calls Tryz.prog 202 #[gv, .map (some bm), .int .i64 (i : Int)] w fun e w' => ∃ b, e = .returned (.pointer (some ⟨b, 0, none⟩)) ∧ St w' b (seenF g (baseEvs g i)) (innF g (baseEvs g i)) ∧ w.heap.size ≤ b ∧ Ext w w' := by
  obtain ⟨A0, c0, A1, c1, A2, c2, rfl, h0, h1, h2, r0, r1, r2⟩ := hv.ex
  have hnd := noDup_of h6.1.1.1.1.1.2
  have hck := h6.1.1.1.2
  have hb8 := (checkB_zero hck).1
  have hev8 : g.evs.length ≤ 8 := by have := h6.1.1.2; omega
  obtain ⟨_, hcnt, hfo⟩ := fitsB_zero h6.2
  have hx : g.brs[i]? = some g.brs[i] := List.getElem?_eq_getElem hi
  generalize g.brs[i] = x at hx
  have hvk := (fitsOk_iff _ _).1 hfo i hi
  have hr := at_range hck hx
  obtain ⟨m, hm⟩ : ∃ m : Nat, x.at_ = m := ⟨x.at_.toNat, by omega⟩
  have HTK := Lib.hid (vpre_take hck hx hvk hm)
  have hpl := vpre_len hck hx hvk
  have HPL : Hid ((vpre g.brs (cnts g) i).length = m) := Lib.hid (by omega)
  have hm320 : m ≤ 320 := by omega
  have hidx : idx g.brs x.name = i := (checkB_zero hck).2.1 i x hx
  have hve : viewErr g.brs (cnts g) x.name = 0 := viewErr_ok h6.2 (by omega)
  have hvl : viewL g.brs (cnts g) x.name = vw g.brs (cnts g) i := by rw [viewL_ok hve, hidx, Int.toNat_natCast]
  have HVE := Lib.hid hve
  have HVL := Lib.hid hvl
  have HLE : Hid (m ≤ (vw g.brs (cnts g) i).length) := Lib.hid (by rw [vw_eq, List.length_append, HPL.out]; omega)
  have HX := Lib.hid hx
  have HM := Lib.hid hm
  have HMAP := Lib.hid hmap
  clear hck hcnt hfo hx hvk hr hm hpl hidx hve hvl h6 hmap
  go_enter Tryz.func202, Tryz.ntmps202
  go_wp2_with (with_reducible refine stop_box ?_)
  refine Stop.go ?_
  refine ev_box3 (c0 := .slice A0 g.known.length c0) (c1 := .slice A1 g.brs.length c1) (c2 := .slice A2 g.evs.length c2) rfl ?_
  intro g1 w1 hb_g1 he hg_g1 k0 k1 k2
  have HE := Lib.hid he
  have HV := Lib.hid (hv.ext he)
  have R1 := Lib.hid (r1.ext he)
  have R2 := Lib.hid (r2.ext he)
  obtain ⟨ad, e0, q0, q1, q2⟩ := R1.out.br HX.out
  cases e0
  rw [HM.out] at q2
  clear he r0 r1 r2 hv hb_g1 hg_g1
  go_wp2_with (with_reducible refine stop_alloc ?_)
  refine Stop.go ?_
  refine ev_alloc _ zSt ?_
  intro b w2 hb he2 hgb
  have hst : St w2 b (seenF g (evsOf g ((vpre g.brs (cnts g) i).take 0))) (innF g (evsOf g ((vpre g.brs (cnts g) i).take 0))) := hb
  have HST := Lib.hid hst
  have HB := Lib.hid hgb
  have HE2 := Lib.hid he2
  have HBS : Hid (b < w2.heap.size) := Lib.hid (blk_lt hb)
  have HCNT := Lib.hid (ledger_counts g _ w2.drew (HV.out.ext he2.drew) (by omega))
  clear hst hb he2 hgb
  have y0 : ∀ y : Up w1, y.u.cell? _ = _ := fun y => y.ext.cell k0
  have y1 : ∀ y : Up w1, y.u.cell? _ = _ := fun y => y.ext.cell k1
  have y2 : ∀ y : Up w1, y.u.cell? _ = _ := fun y => y.ext.cell k2
  have z0 : ∀ y : Up w1, y.u.cell? _ = _ := fun y => y.ext.cell q0
  go_wp2
  refine wp_region_planE HE2.out [(true, 0), (true, 1), (true, 2), (true, 4), (true, 5), (true, 6), (true, 7), (true, 8), (true, 9), (false, 3), (false, 10), (true, 11), (true, 12), (true, 13), (true, 14), (true, 15)] (by kernel_rfl) (by kernel_rfl) ?_
  iterate 9 ((try go_frame); refine plan_read ?_; go_big_quiet_step (fail); refine wpQuiet_nil ?_)
  refine plan_enter (F := 135) rfl (fun _ _ => by kernel_rfl) HE2.out.drew (HCNT.out.mono ?_)
  rintro e w3 ⟨r, rfl, hfr, he3⟩
  refine ⟨_, rfl, he3, ?_⟩
  have hE3 : Ext w1 w3 := HE2.out.drew.trans he3
  obtain ⟨A3, c3, rfl, hc3, hr3⟩ := hfr.sl
  refine plan_enter (F := 134) rfl (fun _ _ => by kernel_rfl) hE3 ((branch_View g.brs (cnts g) x.name (some ad) A3 c1 c3 w3 (R1.out.ext hE3) hr3 h1).mono ?_)
  rintro e w5 ⟨r, rfl, hown, he5⟩
  refine ⟨_, rfl, he5, ?_⟩
  rw [HVE.out]
  rw [HVL.out] at hown
  obtain ⟨A5, c5, rfl, hc5, hr5⟩ := hown.sl
  iterate 5 ((try go_frame); refine plan_read ?_; go_big_quiet_step (fail); refine wpQuiet_nil ?_)
  refine plan_end ?_
  have hE5 : Ext w1 w5 := hE3.trans he5
  have HE5 := Lib.hid hE5
  have hE25 : Ext w2 w5 := (Ext.refl w2).drew.trans (he3.trans he5)
  have hRV : Rd elMk w5 A5 (vpre g.brs (cnts g) i) := by rw [← HTK.out]; exact hr5.take m
  have hbw3 : b < w3.heap.size := by have := HBS.out; have := ((Ext.refl w2).drew.trans he3).size; omega
  have HOWN : Hid (Own elMk 109 w3.heap.size w5 (.slice A5 (vw g.brs (cnts g) i).length c5) (vw g.brs (cnts g) i)) := Lib.hid hown
  have hmc : m ≤ c5 := Nat.le_trans HLE.out hc5
  have HST3 : Hid (St w5 b (seenF g (evsOf g ((vpre g.brs (cnts g) i).take 0))) (innF g (evsOf g ((vpre g.brs (cnts g) i).take 0)))) := Lib.hid (hE25.blk HST.out)
  have HM3 : Hid (MapSI w5 bm (clsMap g.known)) := Lib.hid (IsMap.ext HMAP.out (HE.out.trans hE5))
  have HNE : Hid (bm ≠ b) := Lib.hid (by have h9 := IsMap.lt HMAP.out; have := HB.out; have := HE.out.size; omega)
  have k1' := hE5.cell k1
  have q2' := hE5.cell q2
  have HLEN : Hid ((vpre g.brs (cnts g) i).length = m) := HPL
  have HBASE : Hid (baseEvs g i = evsOf g (vpre g.brs (cnts g) i)) := Lib.hid rfl
  obtain ⟨n, hn⟩ : ∃ n, n = (vw g.brs (cnts g) i).length := ⟨_, rfl⟩
  rw [← hn] at HOWN ⊢
  generalize vpre g.brs (cnts g) i = v at hok hRV HST3 HLEN HBASE HTK
  have hm2 := HLEN.out
  subst hm2
  have HRV := Lib.hid hRV
  clear hRV hE5 hE25 hE3 hown hfr hr5 hr3 hc5 hc3 he3 he5 HCNT HST y0 y1 y2 z0
  go_wp2_with ((with_reducible refine ev_cut (m := v.length) (A := A5) (n := n) (cap := c5) (k := .i64) Tryz.underlying67 (info_parts iMk).choose_spec.1 ?hx ?hh hmc ?_); (case hx => rfl); (case hh => rfl))
  go_loopw [37] (fun ix wr => ∃ k : Nat, k ≤ v.length ∧ ix = .int .i64 (k : Int) ∧ Hid (St wr b (seenF g (evsOf g (v.take k))) (innF g (evsOf g (v.take k)))) ∧ Hid (MapSI wr bm (clsMap g.known)) ∧ Hid (Own elMk 109 w3.heap.size wr (.slice A5 n c5) (vw g.brs (cnts g) i)) ∧ Hid (Ext w1 wr)) (fun i _ => v.length - (intOf i).toNat)
  case atStart => exact ⟨0, Nat.zero_le _, rfl, HST3.out, HM3.out, HOWN.out, HE5.out⟩
  case round =>
    clear HST3 HM3 HOWN k1' q2'
    obtain ⟨k, hk, rfl, HST, HM, HOW, hE⟩ := hrel
    by_cases hlt : k < v.length
    · have hx : v[k]? = some v[k] := List.getElem?_eq_getElem hlt
      have hmk := hok v[k] (List.getElem_mem hlt)
      generalize v[k] = m at hx hmk
      obtain ⟨i2, j, own, ev, hi, hj, hown, hev, hat⟩ := hmk.1.get
      have hrv : Rd elMk wr A5 v := by
        obtain ⟨A', c', e, _, hr⟩ := HOW.out.sl
        cases e
        rw [← HTK.out]
        exact hr.take _
      obtain ⟨adm, e0, q0, q1⟩ := hrv.mk hx
      obtain ⟨ad2, D, cD, e1, q2, hcD, q3⟩ := (R2.out.ext hE.out).sub hown
      obtain ⟨ad3, e2, q4, q5⟩ := q3.ev hev
      cases e0
      cases e1
      cases e2
      have hil : i2 < g.evs.length := (List.getElem?_eq_some_iff.1 hown).1
      have hjl : j < own.length := (List.getElem?_eq_some_iff.1 hev).1
      have hT : evsOf g (v.take (k + 1)) = evsOf g (v.take k) ++ [ev] := by rw [evsOf_take_succ hx, hat]
      have hc0 := hmk.2.1
      have hc1 := hmk.2.2
      rw [hat] at hc0 hc1
      obtain ⟨cc, hcc⟩ : ∃ cc : Nat, cls g ev.chg = cc := ⟨(cls g ev.chg).toNat, by omega⟩
      have HG := Lib.hid ((cls_map hnd hc0).trans (by rw [hcc]))
      have hcc30 : cc < 30 := by omega
      have HSN := Lib.hid (hT ▸ seenF_snoc (s := evsOf g (v.take k)) hcc)
      have HIN := Lib.hid (hT ▸ innF_snoc (s := evsOf g (v.take k)) hcc)
      have HI := Lib.hid hi
      have HJ := Lib.hid hj
      have k2' := hE.out.cell k2
      rw [hi] at q0
      rw [hj] at q1
      have HQ : Hid (wr.cell? ⟨(adm.add (k * 2)).block, (adm.add (k * 2)).off + 1, none⟩ = some (.int .i64 (j : Int))) := Lib.hid q1
      clear hx hmk hown hev hat hT hc0 hc1 hcc hcD hi hj q3 hrv
      go_wp2_with (first | ((with_reducible refine ev_var (v := .agg #[.int .i64 (i2 : Int), .int .i64 (j : Int)]) _ zMk ?hd ?hx ?hs ?h1 ?_); (case hd => exact fun _ => rfl); (case hx => exact fun _ => rfl); (case hs => rfl); (case h1 => exact one2 rfl rfl); intro gx w4 hb he hgx))
      have m0 := (blk_cell hb 0).trans rfl
      have m1 := (blk_cell hb 1).trans rfl
      have p2 := he.cell k2'
      have p4 := he.cell q2
      have p5 := he.cell q4
      have p6 := he.cell q5
      have y0 : ∀ y : Up w4, y.u.cell? _ = _ := fun y => y.ext.cell m0
      have y1 : ∀ y : Up w4, y.u.cell? _ = _ := fun y => y.ext.cell m1
      have y2 : ∀ y : Up w4, y.u.cell? _ = _ := fun y => y.ext.cell p2
      have y4 : ∀ y : Up w4, y.u.cell? _ = _ := fun y => y.ext.cell p4
      have y5 : ∀ y : Up w4, y.u.cell? _ = _ := fun y => y.ext.cell p5
      have y6 : ∀ y : Up w4, y.u.cell? _ = _ := fun y => y.ext.cell p6
      have HST4 : Hid (St w4 b (seenF g (evsOf g (v.take k))) (innF g (evsOf g (v.take k)))) := Lib.hid (he.blk HST.out)
      have HOW4 : Hid (Own elMk 109 w3.heap.size w4 (.slice _ n c5) (vw g.brs (cnts g) i)) := Lib.hid (HOW.out.ext he)
      have HM4 : Hid (MapSI w4 bm (clsMap g.known)) := Lib.hid (IsMap.ext HM.out he)
      have HE4 : Hid (Ext w1 w4) := Lib.hid (hE.out.trans he)
      clear hb he hgx m0 m1 p2 p4 p5 p6 q0 q1 q2 q4 q5 k2' HQ HST HM HOW hE
      refine wp_region_planU [(true, 0), (true, 1), (true, 2), (true, 3), (true, 4), (true, 5), (true, 6), (true, 7), (true, 8), (true, 9), (false, 10), (false, 11)] (by kernel_rfl) (by kernel_rfl) ?_
      iterate 10 ((try go_frame); refine plan_read ?_; go_big_quiet_step (fail); refine wpQuiet_nil ?_)
      refine plan_pair rfl rfl (Ext.refl w4).drew (fun n w1 h => alloc_ext zEv1 h) ?_
      refine ev_var (v := .agg #[.int .u8 ev.kind, .string ev.chg]) _ zEv (fun _ => rfl) (fun _ => rfl) rfl (one2 rfl rfl) ?_
      intro ge wx hb5 he5 hge
      refine ⟨(Ext.refl w4).drew.trans he5, ?_⟩
      refine plan_end ?_
      have hE5 : Ext w4 wx := (Ext.refl w4).drew.trans he5
      have m0 := (blk_cell hb5 0).trans rfl
      have m1 := (blk_cell hb5 1).trans rfl
      have HST5 : Hid (St wx b (seenF g (evsOf g (v.take k))) (innF g (evsOf g (v.take k)))) := Lib.hid (hE5.blk HST4.out)
      have HOW5 : Hid (Own elMk 109 w3.heap.size wx (.slice _ n c5) (vw g.brs (cnts g) i)) := Lib.hid (HOW4.out.ext hE5)
      have HM5 : Hid (MapSI wx bm (clsMap g.known)) := Lib.hid (IsMap.ext HM4.out hE5)
      have HEx : Hid (Ext w1 wx) := Lib.hid (HE4.out.trans hE5)
      have hlk : (Instr.lookup 171 (.map (some bm)) (.string ev.chg) false).run Tryz.prog wx = .ok (.int .i64 (cc : Int)) wx := by
        have := MapSI.look HM5.out ev.chg
        rw [HG.out] at this
        exact this
      clear hb5 he5 hge hE5 HST4 HM4 HE4 y0 y1 y2 y4 y5 y6
      go_wp2_with fail
      refine (state_put b cc _ _ ev.kind wx HST5.out hcc30).mono ?_
      rintro e w6 ⟨rfl, hs6, ht6⟩
      have HST6 : Hid (St w6 b (seenF g (evsOf g (v.take (k + 1)))) (innF g (evsOf g (v.take (k + 1))))) := Lib.hid (by rw [HSN.out, HIN.out]; exact hs6)
      have HOW6 : Hid (Own elMk 109 w3.heap.size w6 (.slice _ n c5) (vw g.brs (cnts g) i)) := Lib.hid (HOW5.out.turned flMk ht6 (fun e => by have := HOW5.out.blk _ e; omega))
      have HM6 : Hid (MapSI w6 bm (clsMap g.known)) := Lib.hid (IsMap.turned HM5.out ht6 HNE.out)
      have HE6 : Hid (Ext w1 w6) := Lib.hid (ht6.ext HEx.out HB.out)
      clear hs6 ht6 HST5 HM5 HEx m0 m1 hlk HG HSN HIN
      go_wp2
      go_roundw
      case rel => exact ⟨k + 1, by omega, by go_num, HST6.out, HM6.out, HOW6.out, HE6.out⟩
      case measure => simp [intOf]; omega
    · have HST2 : Hid (St wr b (seenF g (evsOf g v)) (innF g (evsOf g v))) := Lib.hid (by have := HST.out; rw [List.take_of_length_le (by omega)] at this; exact this)
      have HB2 : Hid (w.heap.size ≤ b) := Lib.hid (Nat.le_trans HE.out.size HB.out)
      have HE2 : Hid (Ext w wr) := Lib.hid (HE.out.trans hE.out)
      clear HST
      go_wp2
      go_ret
      rw [HBASE.out]
      exact ⟨_, rfl, HST2.out, HB2.out, HE2.out⟩
end Go.Proofs.YtgibdafkidkahaaGreatDoor
