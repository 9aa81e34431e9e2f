/- Derived: the law MissingFold: its walk. -/
import Derived.Test.YtgibdafkidkahaaGreatDoorBefore
set_option linter.unusedVariables false
set_option linter.unusedSimpArgs false
namespace Go.Proofs.YtgibdafkidkahaaGreatDoor
open Go.RowKit

/-- A table of 30 bools. -/
def Tb (w : World) (b : Nat) (h : Nat → Bool) : Prop := w.heap[b]? = some (.cells ((List.range 30).map fun k => Value.bool (h k)).toArray 74 (0, 0))
theorem Tb.get {w : World} {b : Nat} {h : Nat → Bool} (s : Tb w b h) {c : Nat} (hc : c < 30) : w.cell? ⟨b, c, none⟩ = some (.bool (h c)) := by
  rw [blk_cell s]
  simp [List.getElem?_map, List.getElem?_range hc]
theorem Tb.set {w : World} {b : Nat} {h : Nat → Bool} (s : Tb w b h) (c : Nat) (v : Bool) : Tb (w.setCell ⟨b, c, none⟩ (.bool v)) b (upd h c v) := by
  unfold Tb
  rw [blk_set s, List.setIfInBounds_toArray, map_range_set]
theorem zTb : (Tryz.prog.info? 74).map (fun i => i.zero) = some (some (.agg ((List.range 30).map fun _ => Value.bool false).toArray)) := by kernel_rfl
theorem innF_nil (g : Lg) : innF g [] = fun _ => false := by funext k; rfl
set_option maxRecDepth 100000 in
set_option maxHeartbeats 8000000 in
theorem law_fold0 (g : Lg) (fx : List Fx) (i n : Int) (v : Value) (A : Option Addr) (c : Nat) (w : World) (hv : LgV w v g) (hf : Rd elFx w A fx) (hn0 : n < 0) :
    Calls Tryz.prog 6 #[v, .slice A fx.length c, .int .i64 i, .int .i64 n] w fun e w' => e = .returned (.bool true) ∧ Ext w w' := by
  obtain ⟨A0, c0, A1, c1, A2, c2, rfl, h0, h1, h2, r0, r1, r2⟩ := hv.ex
  go_enter Tryz.func6, Tryz.ntmps6
  go_wp2_with (with_reducible refine stop_box ?_)
  refine Stop.go ?_
  refine ev_box3 (c0 := .slice A0 g.known.length c0) (c1 := .slice A1 g.brs.length c1) (c2 := .slice A2 g.evs.length c2) rfl ?_
  intro g1 w1 hb_g1 he hg_g1 k0 k1 k2
  have HE := Lib.hid he
  have HV := Lib.hid (hv.ext he)
  have RF := Lib.hid (hf.ext he)
  have R1 := Lib.hid (r1.ext he)
  clear he r0 r1 r2 hv hf hb_g1 hg_g1
  go_wp2_with fail
  refine (law34_alive w1).mono ?_
  rintro e w2 ⟨rfl, he2⟩
  replace k0 := he2.cell k0
  replace k1 := he2.cell k1
  replace k2 := he2.cell k2
  have HE2 := Lib.hid (HE.out.trans he2)
  have HV2 := Lib.hid (HV.out.ext he2)
  have RF2 := Lib.hid (RF.out.ext he2)
  have R12 := Lib.hid (R1.out.ext he2)
  clear he2 HE HV RF R1
  go_wp2_with fail
  refine (ref34_Great g fx _ A c w2 HV2.out RF2.out).mono ?_
  rintro e w3 ⟨b, rfl, he3⟩
  replace k0 := he3.cell k0
  replace k1 := he3.cell k1
  replace k2 := he3.cell k2
  have HE3 := Lib.hid (HE2.out.trans he3)
  have HV3 := Lib.hid (HV2.out.ext he3)
  have RF3 := Lib.hid (RF2.out.ext he3)
  have R13 := Lib.hid (R12.out.ext he3)
  clear he3 HE2 HV2 RF2 R12
  cases b with
  | true =>
    go_wp2
    go_ret
    exact ⟨rfl, HE3.out⟩
  | false =>
    go_wp2_with fail
    refine (ref34_Check g fx _ A c w3 HV3.out RF3.out).mono ?_
    rintro e w4 ⟨rfl, he4⟩
    replace k0 := he4.cell k0
    replace k1 := he4.cell k1
    replace k2 := he4.cell k2
    have HE4 := Lib.hid (HE3.out.trans he4)
    have HV4 := Lib.hid (HV3.out.ext he4)
    have RF4 := Lib.hid (RF3.out.ext he4)
    have R14 := Lib.hid (R13.out.ext he4)
    clear he4 HE3 HV3 RF3 R13
    by_cases hck : checkF g fx = 0
    · have hb8 : g.brs.length ≤ 8 := (checkB_zero (checkL_zero (checkF_zero hck).1).1.1.1.1.2).1
      by_cases hi0 : i < 0
      · rw [hck]
        clear hck
        go_wp2
        go_ret
        exact ⟨rfl, HE4.out⟩
      · by_cases hi1 : (g.brs.length : Int) ≤ i
        · rw [hck]
          clear hck
          go_wp2
          go_ret
          exact ⟨rfl, HE4.out⟩
        · obtain ⟨ki, rfl⟩ : ∃ k : Nat, i = k := ⟨i.toNat, by omega⟩
          have hki : ki < g.brs.length := by omega
          have hx : g.brs[ki]? = some g.brs[ki] := List.getElem?_eq_getElem hki
          have hxm : g.brs[ki] ∈ g.brs := List.getElem_mem hki
          generalize g.brs[ki] = x at hx hxm
          have hle := fold_err (checkF_zero hck).1 hxm
          obtain ⟨i0, hv1, hv2, hvl, hv3, hmo, hlen⟩ := lv_facts hle
          have HVE := Lib.hid (lvErr_zero hle).2
          have HVL := Lib.hid hvl
          have HMO := Lib.hid hmo
          have HCLS := Lib.hid (lvMk_cls hle)
          have HCK := Lib.hid hck
          have HXM := Lib.hid hxm
          have hev8 : g.evs.length ≤ 8 := by have := (checkL_zero (checkF_zero hck).1).1.1.1.2; omega
          have hf30 := (checkF_zero hck).2.1
          obtain ⟨ad, rfl, q0, q1, q2⟩ := R14.out.br hx
          have hq0 := q0
          rw [hck]
          have hk0 : ¬ (ki : Int) < 0 := by omega
          clear hck hle hvl hmo hxm hi0 hi1 q1 q2 hx hv1 hv2 hv3
          go_wp2_with fail
          have y0 : ∀ y : Up w4, y.u.cell? _ = _ := fun y => y.ext.cell k0
          have y1 : ∀ y : Up w4, y.u.cell? _ = _ := fun y => y.ext.cell k1
          have y2 : ∀ y : Up w4, y.u.cell? _ = _ := fun y => y.ext.cell k2
          have HCNT := Lib.hid (ref29_Counts g _ w4.drew (HV4.out.ext (Ext.refl w4).drew) (by omega))
          refine wp_region_planU [(true, 0), (true, 1), (true, 2), (true, 4), (false, 3), (false, 5), (true, 6), (true, 7), (true, 8), (true, 9), (true, 10)] (by kernel_rfl) (by kernel_rfl) ?_
          iterate 4 ((try go_frame); refine plan_read ?_; go_big_quiet_step (fail); refine wpQuiet_nil ?_)
          refine plan_enter (F := 33) rfl (fun _ _ => by kernel_rfl) (Ext.refl w4).drew (HCNT.out.mono ?_)
          rintro e w5 ⟨r, rfl, hfr, he5⟩
          refine ⟨_, rfl, he5, ?_⟩
          have hE5 : Ext w4 w5 := (Ext.refl w4).drew.trans he5
          obtain ⟨A3, c3, rfl, hc3, hr3⟩ := hfr.sl
          refine plan_enter (F := 32) rfl (fun _ _ => by kernel_rfl) hE5 ((ref26_View g.brs (cnts g) x.name (some ad) A3 c1 c3 w5 (R14.out.ext hE5) hr3 h1).mono ?_)
          rintro e w6 ⟨r, rfl, hfr2, he6⟩
          refine ⟨_, rfl, he6, ?_⟩
          rw [HVE.out]
          rw [HVL.out] at hfr2
          obtain ⟨A5, c5, rfl, hc5, hr5⟩ := hfr2.sl
          iterate 5 ((try go_frame); refine plan_read ?_; go_big_quiet_step (fail); refine wpQuiet_nil ?_)
          refine plan_end ?_
          have hE6 : Ext w4 w6 := hE5.trans he6
          replace k0 := hE6.cell k0
          replace k1 := hE6.cell k1
          replace k2 := hE6.cell k2
          have HE6 := Lib.hid (HE4.out.trans hE6)
          have HV6 := Lib.hid (HV4.out.ext hE6)
          have RF6 := Lib.hid (RF4.out.ext hE6)
          have R16 := Lib.hid (R14.out.ext hE6)
          have HVW := Lib.hid hr5
          have HC5 := Lib.hid hc5
          clear hfr hfr2 he5 he6 hE5 hE6 hr3 hc3 hr5 HCNT y0 y1 y2 HE4 HV4 RF4 R14 q0 hq0 hc5
          obtain ⟨L, hL⟩ : ∃ L, L = (lvMk g x.name).length := ⟨_, rfl⟩
          rw [← hL] at hlen ⊢
          have HL := Lib.hid hL
          clear hL
          have HSEEN := Lib.hid (ref29_Seen g (lvMk g x.name) L _ A5 c5 w6 HV6.out HVW.out HC5.out HMO.out (by have := HL.out; omega) (by omega))
          rw [← HL.out] at HSEEN
          go_wp2_with fail
          refine HSEEN.out.mono ?_
          rintro e w7 ⟨r, rfl, hown, he7⟩
          have HSC : Hid (∀ ev, ev ∈ evsOf g ((lvMk g x.name).take L) → 0 ≤ cls g ev.chg ∧ cls g ev.chg < 30) := Lib.hid (by
            intro ev hev
            obtain ⟨mk, hmk, rfl⟩ := List.mem_map.1 hev
            exact (HCLS.out mk (List.mem_of_mem_take hmk)).2)
          have HTH := Lib.hid (fold_then HCK.out HXM.out (m := L) (by have := HL.out; omega))
          generalize evsOf g ((lvMk g x.name).take L) = S at *
          obtain ⟨A7, c7, rfl, hc7, hr7⟩ := hown.sl
          replace k0 := he7.cell k0
          replace k1 := he7.cell k1
          replace k2 := he7.cell k2
          have HR7 := Lib.hid hr7
          have HE7 := Lib.hid (HE6.out.trans he7)
          have HV7 := Lib.hid (HV6.out.ext he7)
          have RF7 := Lib.hid (RF6.out.ext he7)
          have R17 := Lib.hid (R16.out.ext he7)
          have hS := hr7.1
          clear hown he7 hc7 hr7 HSEEN HE6 HV6 RF6 R16 HVW
          go_wp2_with (with_reducible refine stop_alloc ?_)
          refine Stop.go ?_
          refine ev_alloc _ zTb ?_
          intro b w8 hb8' he8 hg8
          have HT8 : Hid (Tb w8 b (innF g (S.take 0))) := Lib.hid (by rw [List.take_zero, innF_nil]; exact hb8')
          have HE8 := Lib.hid he8
          have HB := Lib.hid hg8
          clear hb8' he8 hg8
          have y0 : ∀ y : Up w7, y.u.cell? _ = _ := fun y => y.ext.cell k0
          have y1 : ∀ y : Up w7, y.u.cell? _ = _ := fun y => y.ext.cell k1
          have y2 : ∀ y : Up w7, y.u.cell? _ = _ := fun y => y.ext.cell k2
          go_wp2
          go_loopw [15] (fun i wr => ∃ k : Nat, k ≤ S.length ∧ i = .int .i64 (k : Int) ∧ Hid (Tb wr b (innF g (S.take k))) ∧ Hid (Ext w7 wr)) (fun i _ => S.length - (intOf i).toNat)
          case atStart => exact ⟨0, Nat.zero_le _, rfl, HT8.out, HE8.out⟩
          case round =>
            clear HT8 HE8
            obtain ⟨k, hk, rfl, HT, hE⟩ := hrel
            by_cases hlt : k < S.length
            · have hs : S[k]? = some S[k] := List.getElem?_eq_getElem hlt
              obtain ⟨cl0, cl1⟩ := HSC.out S[k] (List.getElem_mem hlt)
              generalize S[k] = ev at hs cl0 cl1
              obtain ⟨adS, e0, q0, q1⟩ := HR7.out.ev hs
              cases e0
              obtain ⟨cN, hcN⟩ : ∃ cN : Nat, cls g ev.chg = cN := ⟨(cls g ev.chg).toNat, by omega⟩
              have HCN := Lib.hid hcN
              have HSN : Hid (innF g (S.take (k + 1)) = upd (innF g (S.take k)) cN (decide (ev.kind ≠ 3))) := Lib.hid (by rw [List.take_add_one, hs]; exact innF_snoc hcN)
              have HCC := Lib.hid (ref29_Class g ev.chg _ wr.drew (HV7.out.ext hE.out.drew))
              rw [hcN] at HCC cl0 cl1
              clear hs hcN cl0
              have z0 : ∀ y : Up w7, y.u.cell? _ = _ := fun y => y.ext.cell q0
              have z1 : ∀ y : Up w7, y.u.cell? _ = _ := fun y => y.ext.cell q1
              go_wp2
              refine wp_region_planE hE.out [(true, 0), (true, 1), (true, 2), (true, 3), (true, 4), (true, 5), (true, 7), (true, 8), (true, 9), (true, 10), (true, 11), (true, 12), (false, 6), (true, 13), (false, 14)] (by kernel_rfl) (by kernel_rfl) ?_
              iterate 12 ((try go_frame); refine plan_read ?_; go_big_quiet_step (fail); refine wpQuiet_nil ?_)
              refine plan_enter (F := 35) rfl (fun _ _ => by kernel_rfl) hE.out.drew (HCC.out.mono ?_)
              rintro e w9 ⟨rfl, he9⟩
              refine ⟨_, rfl, he9, ?_⟩
              iterate 1 ((try go_frame); refine plan_read ?_; go_big_quiet_step (fail); refine wpQuiet_nil ?_)
              have HT9 : Tb w9 b (innF g (S.take k)) := ((Ext.refl wr).drew.trans he9).blk HT.out
              have t0 := HT9.get (c := cN) (by omega)
              have t1 := blk_frozen HT9 cN
              have HT10 := Lib.hid (HT9.set cN (ev.kind != 3))
              have HE9 := Lib.hid (hE.out.drew.trans he9)
              clear HT9 he9 HCC z0 z1 HT
              refine plan_one rfl ?_
              go_wp2_with fail
              have HE10 := Lib.hid ((Turned.setCell w9 b cN (.bool (ev.kind != 3))).ext HE9.out HB.out)
              refine ⟨HE10.out, plan_end ?_⟩
              have HT11 : Hid (Tb (w9.setCell ⟨b, cN, none⟩ (.bool (ev.kind != 3))) b (innF g (S.take (k + 1)))) := Lib.hid (by
                have hkk : (ev.kind != 3) = decide (ev.kind ≠ 3) := by by_cases h : ev.kind = 3 <;> simp [h]
                rw [HSN.out, ← hkk]; exact HT10.out)
              generalize w9.setCell ⟨b, cN, none⟩ (.bool (ev.kind != 3)) = w10 at *
              clear HT10 HE9 HSN t0 t1
              go_wp2
              go_roundw
              case rel => exact ⟨k + 1, by omega, by go_num, HT11.out, HE10.out⟩
              case measure => simp [intOf]; omega
            · have HTE : Hid (Tb wr b (innF g S)) := Lib.hid (by have := HT.out; rw [List.take_of_length_le (by omega)] at this; exact this)
              clear HT y0 y1 y2
              replace k0 := hE.out.cell k0
              replace k1 := hE.out.cell k1
              replace k2 := hE.out.cell k2
              have HEr := Lib.hid (HE7.out.trans hE.out)
              have HVr := Lib.hid (HV7.out.ext hE.out)
              have RFr := Lib.hid (RF7.out.ext hE.out)
              have R1r := Lib.hid (R17.out.ext hE.out)
              have HTN := Lib.hid (missing_Then g fx x.name (L : Nat) _ A c wr HVr.out RFr.out)
              rw [HTH.out.1, HTH.out.2] at HTN
              have HGF : Hid (∀ f, f ∈ fx → (∀ y, y ∈ ordL fx [(x.name, effL g S)] → y.cls = f.cls → y = ⟨x.name, f.cls, f.wt⟩) ∧ cntC (ordL fx [(x.name, effL g S)]) f.cls = (if (wanted f x.name && !innF g S f.cls.toNat) = true then 1 else 0) ∧ 0 ≤ f.cls ∧ f.cls < 30) := Lib.hid (fun f hf => by
                have hfo := fxOk_of HCK.out
                have hc := hfo.cls f hf
                have hi : innF g S f.cls.toNat = inP g S f.cls := by unfold innF; rw [Int.toNat_of_nonneg hc.1]
                refine ⟨gap_fix hfo hf, ?_, hc⟩
                rw [gap_count hfo hf, mem_effL hc, hi])
              have HGL : Hid ((ordL fx [(x.name, effL g S)]).length ≤ fx.length) := Lib.hid (fold_len (fxOk_of HCK.out) _)
              clear hE HE7 HV7 RF7 R17 HTH HSC HR7
              generalize ordL fx [(x.name, effL g S)] = G at *
              go_wp2_with fail
              refine HTN.out.mono ?_
              rintro e w11 ⟨r, rfl, hown, he11⟩
              obtain ⟨A9, c9, rfl, hc9, hr9⟩ := hown.sl
              replace k0 := he11.cell k0
              replace k1 := he11.cell k1
              replace k2 := he11.cell k2
              have HR9 := Lib.hid hr9
              have HE11 := Lib.hid (HEr.out.trans he11)
              have HV11 := Lib.hid (HVr.out.ext he11)
              have RF11 := Lib.hid (RFr.out.ext he11)
              have R111 := Lib.hid (R1r.out.ext he11)
              have HT11 := Lib.hid (he11.blk HTE.out)
              have hGl := hr9.1
              have hGL := HGL.out
              clear hown he11 hc9 hr9 HTN HEr HVr RFr R1r HTE
              go_wp2
              go_loopw [8, 18] (fun r i wr => ∃ k : Nat, k ≤ fx.length ∧ r = .bool false ∧ i = .int .i64 (k : Int) ∧ Hid (Ext w11 wr)) (fun _ i _ => fx.length - (intOf i).toNat)
              case atStart => exact ⟨0, Nat.zero_le _, rfl, rfl, Ext.refl _⟩
              case round =>
                obtain ⟨k, hk, rfl, rfl, hE⟩ := hrel
                by_cases hlt : k < fx.length
                · have hfk : fx[k]? = some fx[k] := List.getElem?_eq_getElem hlt
                  obtain ⟨hgf, hgc, hc0, hc1⟩ := HGF.out fx[k] (List.getElem_mem hlt)
                  generalize fx[k] = f at hfk hgf hgc hc0 hc1
                  obtain ⟨af, B, cB, e0, f0, f1, f2, hcB, qr⟩ := RF11.out.fx hfk
                  cases e0
                  have HF0 := Lib.hid f0
                  have HF1 := Lib.hid f1
                  have HF2 := Lib.hid f2
                  have HQR := Lib.hid qr
                  have HGFk := Lib.hid hgf
                  have HGCk := Lib.hid hgc
                  clear hfk hgf hgc f0 f1 f2 qr
                  go_wp2
                  go_loopw [8, 19, 20] (fun r o j wr => ∃ t : Nat, t ≤ G.length ∧ r = .bool false ∧ j = .int .i64 (t : Int) ∧ o = .int .i64 (cntC (G.take t) f.cls : Nat) ∧ Hid (Ext w11 wr)) (fun _ _ j _ => G.length - (intOf j).toNat)
                  case atStart => exact ⟨0, Nat.zero_le _, rfl, rfl, rfl, hE.out⟩
                  case round =>
                    obtain ⟨t, ht, rfl, rfl, rfl, hEj⟩ := hrel
                    by_cases hlt2 : t < G.length
                    · have hy : G[t]? = some G[t] := List.getElem?_eq_getElem hlt2
                      have hyf := HGFk.out G[t] (List.getElem_mem hlt2)
                      generalize G[t] = y at hy hyf
                      obtain ⟨ay, e0, g0, g1', g2⟩ := HR9.out.gp hy
                      cases e0
                      have HCT := Lib.hid (cntC_take f.cls hy)
                      have hcl := cntC_le (G.take t) f.cls
                      have hcl2 : (G.take t).length ≤ 30 := by rw [List.length_take]; omega
                      have a0 := hEj.out.cell g0
                      have a1 := hEj.out.cell g1'
                      have a2 := hEj.out.cell g2
                      have b0 := hEj.out.cell HF0.out
                      have b1 := hEj.out.cell HF1.out
                      clear hy g0 g1' g2
                      obtain ⟨yb, yc, yw⟩ := y
                      simp only at a0 a1 a2 HCT hyf
                      generalize cntC (G.take t) f.cls = q at *
                      by_cases hyc : yc = f.cls
                      · have hye := hyf hyc
                        simp only [Gp.mk.injEq] at hye
                        obtain ⟨rfl, _, rfl⟩ := hye
                        subst hyc
                        have HC2 : Hid (cntC (G.take (t + 1)) f.cls = q + 1) := Lib.hid (HCT.out.trans (if_pos rfl))
                        clear HCT hyf
                        have y0 : ∀ y : Up wr, y.u.cell? _ = _ := fun y => y.ext.cell a0
                        have y1 : ∀ y : Up wr, y.u.cell? _ = _ := fun y => y.ext.cell a1
                        have y2 : ∀ y : Up wr, y.u.cell? _ = _ := fun y => y.ext.cell a2
                        have y3 : ∀ y : Up wr, y.u.cell? _ = _ := fun y => y.ext.cell b0
                        have y4 : ∀ y : Up wr, y.u.cell? _ = _ := fun y => y.ext.cell b1
                        go_wp2
                        refine wp_quietU (by kernel_rfl) (by kernel_rfl) ?_
                        repeat (go_big_quiet_step (fail))
                        refine wpQuiet_nil ?_
                        rintro wk ⟨u1, hu1⟩
                        have hwk : Ext wr wk := by rw [hu1]; exact u1.ext
                        clear hu1 u1 y0 y1 y2 y3 y4
                        replace a0 := hwk.cell a0
                        replace a1 := hwk.cell a1
                        replace a2 := hwk.cell a2
                        replace b0 := hwk.cell b0
                        replace b1 := hwk.cell b1
                        have HEk := Lib.hid (hEj.out.trans hwk)
                        clear hwk hEj
                        have y0 : ∀ y : Up wk, y.u.cell? _ = _ := fun y => y.ext.cell a0
                        have y1 : ∀ y : Up wk, y.u.cell? _ = _ := fun y => y.ext.cell a1
                        have y2 : ∀ y : Up wk, y.u.cell? _ = _ := fun y => y.ext.cell a2
                        have y3 : ∀ y : Up wk, y.u.cell? _ = _ := fun y => y.ext.cell b0
                        have y4 : ∀ y : Up wk, y.u.cell? _ = _ := fun y => y.ext.cell b1
                        go_wp2
                        refine wp_quietU (by kernel_rfl) (by kernel_rfl) ?_
                        repeat (go_big_quiet_step (fail))
                        refine wpQuiet_nil ?_
                        rintro wl ⟨u1, hu1⟩
                        have hwl : Ext wk wl := by rw [hu1]; exact u1.ext
                        have HEl := Lib.hid (HEk.out.trans hwl)
                        clear hu1 u1 y0 y1 y2 y3 y4 hwl HEk a0 a1 a2 b0 b1
                        go_wp2
                        go_roundw
                        case rel => exact ⟨t + 1, by omega, rfl, by go_num, by rw [HC2.out]; go_num, HEl.out⟩
                        case measure => simp [intOf]; omega
                      · have HC2 : Hid (cntC (G.take (t + 1)) f.cls = q) := Lib.hid (HCT.out.trans (if_neg hyc))
                        have e1 : (yc == f.cls) = false := beq_eq_false_iff_ne.2 hyc
                        clear HCT hyf hyc
                        have y0 : ∀ y : Up wr, y.u.cell? _ = _ := fun y => y.ext.cell a0
                        have y1 : ∀ y : Up wr, y.u.cell? _ = _ := fun y => y.ext.cell a1
                        have y2 : ∀ y : Up wr, y.u.cell? _ = _ := fun y => y.ext.cell a2
                        have y3 : ∀ y : Up wr, y.u.cell? _ = _ := fun y => y.ext.cell b0
                        have y4 : ∀ y : Up wr, y.u.cell? _ = _ := fun y => y.ext.cell b1
                        go_wp2
                        refine wp_quietU (by kernel_rfl) (by kernel_rfl) ?_
                        repeat (go_big_quiet_step (fail))
                        refine wpQuiet_nil ?_
                        rintro wk ⟨u1, hu1⟩
                        have hwk : Ext wr wk := by rw [hu1]; exact u1.ext
                        have HEk := Lib.hid (hEj.out.trans hwk)
                        clear hu1 u1 y0 y1 y2 y3 y4 hwk hEj a0 a1 a2 b0 b1
                        go_wp2
                        go_roundw
                        case rel => exact ⟨t + 1, by omega, rfl, by go_num, by rw [HC2.out], HEk.out⟩
                        case measure => simp [intOf]; omega
                    · have HCG : Hid (cntC (G.take t) f.cls = if (wanted f x.name && !innF g S f.cls.toNat) = true then 1 else 0) := Lib.hid (by rw [List.take_of_length_le (by omega)]; exact HGCk.out)
                      obtain ⟨fN, hfN⟩ : ∃ fN : Nat, f.cls = fN := ⟨f.cls.toNat, by omega⟩
                      have b0 := hEj.out.cell HF0.out
                      have b1 := hEj.out.cell HF1.out
                      have b2 := hEj.out.cell HF2.out
                      have HTj : Tb wr b (innF g S) := hEj.out.blk HT11.out
                      have t0 := HTj.get (c := fN) (by omega)
                      have HWT := Lib.hid (ref34_Wanted f x.name B cB wr (HQR.out.ext hEj.out))
                      have HEjj := Lib.hid hEj.out
                      rw [hfN] at HWT b0 hc0 hc1
                      rw [hfN, Int.toNat_natCast] at HCG
                      clear hEj HTj
                      cases hW : wanted f x.name with
                      | true =>
                        cases hI : innF g S fN with
                        | true =>
                          have HC0 : Hid (cntC (G.take t) f.cls = 0) := Lib.hid (by rw [hfN, HCG.out, hW, hI]; rfl)
                          rw [HC0.out]
                          rw [hI] at t0
                          rw [hW] at HWT
                          clear HCG hW hI
                          go_wp2_with fail
                          refine HWT.out.mono ?_
                          rintro e wm ⟨rfl, hem⟩
                          replace b0 := hem.cell b0
                          replace b1 := hem.cell b1
                          replace b2 := hem.cell b2
                          replace t0 := hem.cell t0
                          have HEm := Lib.hid (HEjj.out.trans hem)
                          clear hem HEjj HWT
                          go_wp2
                          go_roundw
                          case rel => exact ⟨k + 1, by omega, rfl, by go_num, HEm.out⟩
                          case measure => simp [intOf]; omega
                        | false =>
                          have HC0 : Hid (cntC (G.take t) f.cls = 1) := Lib.hid (by rw [hfN, HCG.out, hW, hI]; rfl)
                          rw [HC0.out]
                          rw [hI] at t0
                          rw [hW] at HWT
                          clear HCG hW hI
                          go_wp2_with fail
                          refine HWT.out.mono ?_
                          rintro e wm ⟨rfl, hem⟩
                          replace b0 := hem.cell b0
                          replace b1 := hem.cell b1
                          replace b2 := hem.cell b2
                          replace t0 := hem.cell t0
                          have HEm := Lib.hid (HEjj.out.trans hem)
                          clear hem HEjj HWT
                          go_wp2
                          go_roundw
                          case rel => exact ⟨k + 1, by omega, rfl, by go_num, HEm.out⟩
                          case measure => simp [intOf]; omega
                      | false =>
                        have HC0 : Hid (cntC (G.take t) f.cls = 0) := Lib.hid (by rw [hfN, HCG.out, hW]; rfl)
                        rw [HC0.out]
                        rw [hW] at HWT
                        clear HCG hW
                        go_wp2_with fail
                        refine HWT.out.mono ?_
                        rintro e wm ⟨rfl, hem⟩
                        replace b0 := hem.cell b0
                        replace b1 := hem.cell b1
                        replace b2 := hem.cell b2
                        replace t0 := hem.cell t0
                        have HEm := Lib.hid (HEjj.out.trans hem)
                        clear hem HEjj HWT
                        go_wp2
                        go_roundw
                        case rel => exact ⟨k + 1, by omega, rfl, by go_num, HEm.out⟩
                        case measure => simp [intOf]; omega
                · replace k0 := hE.out.cell k0
                  replace k1 := hE.out.cell k1
                  replace k2 := hE.out.cell k2
                  have HEr := Lib.hid (HE11.out.trans hE.out)
                  have HVr := Lib.hid (HV11.out.ext hE.out)
                  have RFr := Lib.hid (RF11.out.ext hE.out)
                  have HGA := Lib.hid (missing_Gaps g fx _ A c wr HVr.out RFr.out)
                  have HFO := Lib.hid (fold_own HCK.out HXM.out)
                  have HTE2 := Lib.hid (fold_then HCK.out HXM.out (m := L) (by have := HL.out; omega)).1
                  have hal := (gaps_facts HCK.out).1
                  have HBFO : Hid (∀ (k : Nat) (a b : Gp), (gapsL g fx)[k]? = some a → (gapsL g fx)[k + 1]? = some b → cmpG (fun s => idx g.brs s) a b < 0) := Lib.hid (fun k a b ha hb => fold_before HCK.out ha hb)
                  rw [HCK.out] at HGA
                  rw [← HL.out] at HFO
                  clear hE HE11 HV11 RF11 R111 HGF HT11 HR9
                  generalize gapsL g fx = AL at *
                  go_wp2_with fail
                  refine HGA.out.mono ?_
                  rintro e w12 ⟨r, rfl, hown, he12⟩
                  obtain ⟨A12, c12, rfl, hc12, hr12⟩ := hown.sl
                  have HTN2 := Lib.hid (missing_Then g fx x.name (L : Nat) _ A c w12 (HVr.out.ext he12) (RFr.out.ext he12))
                  rw [HTE2.out] at HTN2
                  generalize thenL g fx x.name (L : Int) = EN at *
                  replace k0 := he12.cell k0
                  replace k1 := he12.cell k1
                  replace k2 := he12.cell k2
                  have HR12 := Lib.hid hr12
                  have HE12 := Lib.hid he12
                  clear hown he12 hc12 hr12 HGA
                  go_wp2_with fail
                  refine HTN2.out.mono ?_
                  rintro e w13 ⟨r, rfl, hown2, he13⟩
                  obtain ⟨A13, c13, rfl, hc13, hr13⟩ := hown2.sl
                  replace k0 := he13.cell k0
                  replace k1 := he13.cell k1
                  replace k2 := he13.cell k2
                  have HRA := Lib.hid (HR12.out.ext he13)
                  have HRE := Lib.hid hr13
                  have HE13 := Lib.hid (HEr.out.trans (HE12.out.trans he13))
                  have HV13 := Lib.hid (HVr.out.ext (HE12.out.trans he13))
                  have hal2 := HRA.out.1
                  clear hown2 he13 hc13 hr13 HTN2 HR12 HE12 HEr HVr RFr HTE2
                  go_wp2
                  go_loopw [8, 26, 27] (fun r o t wr => ∃ k : Nat, k ≤ AL.length ∧ r = .bool false ∧ t = .int .i64 (k : Int) ∧ Hid (Own elGp 62 w13.heap.size wr o ((AL.take k).filter fun y => decide (y.br = x.name))) ∧ Hid (Ext w13 wr)) (fun _ _ t _ => AL.length - (intOf t).toNat)
                  case atStart => exact ⟨0, Nat.zero_le _, rfl, rfl, Own.nil _ _ _ _, Ext.refl _⟩
                  case round =>
                    obtain ⟨k, hk, rfl, rfl, HO, hE⟩ := hrel
                    by_cases hlt : k < AL.length
                    · have hy : AL[k]? = some AL[k] := List.getElem?_eq_getElem hlt
                      generalize AL[k] = y at hy
                      obtain ⟨ay, e0, aw0, aw1, aw2⟩ := HRA.out.gp hy
                      cases e0
                      obtain ⟨yb, yc, yw⟩ := y
                      simp only at aw0 aw1 aw2
                      have a0 := hE.out.cell aw0
                      have a1 := hE.out.cell aw1
                      have a2 := hE.out.cell aw2
                      have HA0 := Lib.hid aw0
                      have HA1 := Lib.hid aw1
                      have HA2 := Lib.hid aw2
                      clear aw0 aw1 aw2
                      have HY := Lib.hid hy
                      have hfl : ((AL.take k).filter fun y => decide (y.br = x.name)).length < 1000000 := by
                        have h1 := List.length_filter_le (fun y : Gp => decide (y.br = x.name)) (AL.take k)
                        rw [List.length_take] at h1
                        omega
                      by_cases hyb : yb = x.name
                      · subst hyb
                        have HFT : Hid ((AL.take (k + 1)).filter (fun y => decide (y.br = x.name)) = (AL.take k).filter (fun y => decide (y.br = x.name)) ++ [⟨x.name, yc, yw⟩]) := Lib.hid (by rw [List.take_add_one, HY.out, List.filter_append]; simp)
                        clear hy
                        go_wp2_with (with_reducible refine stop_lit ?_)
                        refine Stop.go ?_
                        refine ev_appGp ⟨x.name, yc, yw⟩ rfl (fun _ => rfl) (fun _ => rfl) HO.out hE.out rfl hfl ?_
                        intro u v5 w5 ho5 he5 hg5 hat5
                        have HOz : Hid (Own elGp 62 w13.heap.size w5 v5 ((AL.take (k + 1)).filter fun y => decide (y.br = x.name))) := Lib.hid (by rw [HFT.out]; exact ho5)
                        have HEz := Lib.hid he5
                        replace a0 := he5.cell HA0.out
                        replace a1 := he5.cell HA1.out
                        replace a2 := he5.cell HA2.out
                        clear ho5 he5 hg5 hat5 HFT HO hE hfl
                        have HVz := Lib.hid (HV13.out.ext HEz.out)
                        have p0 := HEz.out.cell k0
                        have p1 := HEz.out.cell k1
                        have p2 := HEz.out.cell k2
                        go_wp2
                        rcases Nat.eq_zero_or_pos k with hk0 | hkp
                        · have hk1 : decide ((0 : Int) < (k : Int)) = false := decide_eq_false (by omega)
                          have hk3 : ¬ 0 < k := by omega
                          have hk4 : decide (0 < k) = false := decide_eq_false hk3
                          clear hk0
                          have y0 : ∀ y : Up w5, y.u.cell? _ = _ := fun y => y.ext.cell p0
                          have y1 : ∀ y : Up w5, y.u.cell? _ = _ := fun y => y.ext.cell p1
                          have y2 : ∀ y : Up w5, y.u.cell? _ = _ := fun y => y.ext.cell p2
                          refine wp_quietU (by kernel_rfl) (by kernel_rfl) ?_
                          repeat (go_big_quiet_step (fail))
                          refine wpQuiet_nil ?_
                          rintro wq ⟨u1, hu1⟩
                          have hwq : Ext w5 wq := by rw [hu1]; exact u1.ext
                          have HOq := Lib.hid (HOz.out.ext hwq)
                          have HEq := Lib.hid (HEz.out.trans hwq)
                          clear hu1 u1 y0 y1 y2 hwq HOz HEz p0 p1 p2 hk1 hk3 hk4
                          go_wp2
                          go_roundw
                          case rel => exact ⟨k + 1, by omega, rfl, by go_num, HOq.out, HEq.out⟩
                          case measure => simp [intOf]; omega
                        · obtain ⟨s, rfl⟩ : ∃ s, k = s + 1 := ⟨k - 1, by omega⟩
                          have hz : AL[s]? = some AL[s] := List.getElem?_eq_getElem (by omega)
                          have hbf := HBFO.out s AL[s] _ hz HY.out
                          generalize AL[s] = z at hz hbf
                          obtain ⟨az, e0, d0, d1, d2⟩ := (HRA.out.ext HEz.out).gp hz
                          cases e0
                          obtain ⟨zb, zc, zw⟩ := z
                          simp only at d0 d1 d2
                          have HBF : Hid (∀ y : Up w5, _) := Lib.hid fun y : Up w5 => quietU (law34_before g ⟨zb, zc, zw⟩ _ _ y.u (HVz.out.ext y.ext) hbf)
                          have hk1 : decide ((0 : Int) < ((s + 1 : Nat) : Int)) = true := decide_eq_true (by omega)
                          have hk2 : decide ((0 : Int) < (s : Int) + 1) = true := decide_eq_true (by omega)
                          clear hz hbf
                          have y0 : ∀ y : Up w5, y.u.cell? _ = _ := fun y => y.ext.cell p0
                          have y1 : ∀ y : Up w5, y.u.cell? _ = _ := fun y => y.ext.cell p1
                          have y2 : ∀ y : Up w5, y.u.cell? _ = _ := fun y => y.ext.cell p2
                          have y3 : ∀ y : Up w5, y.u.cell? _ = _ := fun y => y.ext.cell d0
                          have y4 : ∀ y : Up w5, y.u.cell? _ = _ := fun y => y.ext.cell d1
                          have y5 : ∀ y : Up w5, y.u.cell? _ = _ := fun y => y.ext.cell d2
                          have y6 : ∀ y : Up w5, y.u.cell? _ = _ := fun y => y.ext.cell a0
                          have y7 : ∀ y : Up w5, y.u.cell? _ = _ := fun y => y.ext.cell a1
                          have y8 : ∀ y : Up w5, y.u.cell? _ = _ := fun y => y.ext.cell a2
                          refine wp_quietU (by kernel_rfl) (by kernel_rfl) ?_
                          repeat (go_big_quiet_step ((first | (go_at_call 37; exact HBF.out _))))
                          refine wpQuiet_nil ?_
                          rintro wq ⟨u1, hu1⟩
                          have hwq : Ext w5 wq := by rw [hu1]; exact u1.ext
                          have HOq := Lib.hid (HOz.out.ext hwq)
                          have HEq := Lib.hid (HEz.out.trans hwq)
                          clear hu1 u1 y0 y1 y2 y3 y4 y5 y6 y7 y8 hwq HOz HEz p0 p1 p2 d0 d1 d2 a0 a1 a2 HBF HVz hk1 hk2
                          go_wp2
                          go_roundw
                          case rel => exact ⟨s + 1 + 1, by omega, rfl, by go_num, HOq.out, HEq.out⟩
                          case measure => simp [intOf]; omega
                      · have e1 := seq_f hyb
                        have HFT : Hid ((AL.take (k + 1)).filter (fun y => decide (y.br = x.name)) = (AL.take k).filter (fun y => decide (y.br = x.name))) := Lib.hid (by rw [List.take_add_one, HY.out, List.filter_append]; simp [hyb])
                        have HOz : Hid (Own elGp 62 w13.heap.size wr _ ((AL.take (k + 1)).filter fun y => decide (y.br = x.name))) := Lib.hid (by rw [HFT.out]; exact HO.out)
                        have HEz := Lib.hid hE.out
                        clear hy hyb HFT HO hE hfl
                        have HVz := Lib.hid (HV13.out.ext HEz.out)
                        have p0 := HEz.out.cell k0
                        have p1 := HEz.out.cell k1
                        have p2 := HEz.out.cell k2
                        go_wp2
                        rcases Nat.eq_zero_or_pos k with hk0 | hkp
                        · have hk1 : decide ((0 : Int) < (k : Int)) = false := decide_eq_false (by omega)
                          have hk3 : ¬ 0 < k := by omega
                          have hk4 : decide (0 < k) = false := decide_eq_false hk3
                          clear hk0
                          have y0 : ∀ y : Up wr, y.u.cell? _ = _ := fun y => y.ext.cell p0
                          have y1 : ∀ y : Up wr, y.u.cell? _ = _ := fun y => y.ext.cell p1
                          have y2 : ∀ y : Up wr, y.u.cell? _ = _ := fun y => y.ext.cell p2
                          refine wp_quietU (by kernel_rfl) (by kernel_rfl) ?_
                          repeat (go_big_quiet_step (fail))
                          refine wpQuiet_nil ?_
                          rintro wq ⟨u1, hu1⟩
                          have hwq : Ext wr wq := by rw [hu1]; exact u1.ext
                          have HOq := Lib.hid (HOz.out.ext hwq)
                          have HEq := Lib.hid (HEz.out.trans hwq)
                          clear hu1 u1 y0 y1 y2 hwq HOz HEz p0 p1 p2 hk1 hk3 hk4
                          go_wp2
                          go_roundw
                          case rel => exact ⟨k + 1, by omega, rfl, by go_num, HOq.out, HEq.out⟩
                          case measure => simp [intOf]; omega
                        · obtain ⟨s, rfl⟩ : ∃ s, k = s + 1 := ⟨k - 1, by omega⟩
                          have hz : AL[s]? = some AL[s] := List.getElem?_eq_getElem (by omega)
                          have hbf := HBFO.out s AL[s] _ hz HY.out
                          generalize AL[s] = z at hz hbf
                          obtain ⟨az, e0, d0, d1, d2⟩ := (HRA.out.ext HEz.out).gp hz
                          cases e0
                          obtain ⟨zb, zc, zw⟩ := z
                          simp only at d0 d1 d2
                          have HBF : Hid (∀ y : Up wr, _) := Lib.hid fun y : Up wr => quietU (law34_before g ⟨zb, zc, zw⟩ _ _ y.u (HVz.out.ext y.ext) hbf)
                          have hk1 : decide ((0 : Int) < ((s + 1 : Nat) : Int)) = true := decide_eq_true (by omega)
                          have hk2 : decide ((0 : Int) < (s : Int) + 1) = true := decide_eq_true (by omega)
                          clear hz hbf
                          have y0 : ∀ y : Up wr, y.u.cell? _ = _ := fun y => y.ext.cell p0
                          have y1 : ∀ y : Up wr, y.u.cell? _ = _ := fun y => y.ext.cell p1
                          have y2 : ∀ y : Up wr, y.u.cell? _ = _ := fun y => y.ext.cell p2
                          have y3 : ∀ y : Up wr, y.u.cell? _ = _ := fun y => y.ext.cell d0
                          have y4 : ∀ y : Up wr, y.u.cell? _ = _ := fun y => y.ext.cell d1
                          have y5 : ∀ y : Up wr, y.u.cell? _ = _ := fun y => y.ext.cell d2
                          have y6 : ∀ y : Up wr, y.u.cell? _ = _ := fun y => y.ext.cell a0
                          have y7 : ∀ y : Up wr, y.u.cell? _ = _ := fun y => y.ext.cell a1
                          have y8 : ∀ y : Up wr, y.u.cell? _ = _ := fun y => y.ext.cell a2
                          refine wp_quietU (by kernel_rfl) (by kernel_rfl) ?_
                          repeat (go_big_quiet_step ((first | (go_at_call 37; exact HBF.out _))))
                          refine wpQuiet_nil ?_
                          rintro wq ⟨u1, hu1⟩
                          have hwq : Ext wr wq := by rw [hu1]; exact u1.ext
                          have HOq := Lib.hid (HOz.out.ext hwq)
                          have HEq := Lib.hid (HEz.out.trans hwq)
                          clear hu1 u1 y0 y1 y2 y3 y4 y5 y6 y7 y8 hwq HOz HEz p0 p1 p2 d0 d1 d2 a0 a1 a2 HBF HVz hk1 hk2
                          go_wp2
                          go_roundw
                          case rel => exact ⟨s + 1 + 1, by omega, rfl, by go_num, HOq.out, HEq.out⟩
                          case measure => simp [intOf]; omega
                    · have HOe : Hid (Own elGp 62 w13.heap.size wr _ EN) := Lib.hid (by have := HO.out; rw [List.take_of_length_le (by omega), HFO.out] at this; exact this)
                      obtain ⟨A14, c14, e14, hc14, hr14⟩ := HOe.out.sl
                      cases e14
                      have HS := Lib.hid (ref34_Same EN EN A14 A13 c14 c13 wr hr14 (HRE.out.ext hE.out))
                      rw [decide_eq_true rfl] at HS
                      have HEe := Lib.hid (HE13.out.trans hE.out)
                      clear HO HOe hE hr14 hc14
                      go_wp2_with fail
                      refine HS.out.mono ?_
                      rintro e w15 ⟨rfl, he15⟩
                      have HE15 := Lib.hid (HEe.out.trans he15)
                      clear HS he15 HEe
                      go_wp2
                      go_ret
                      exact ⟨rfl, HE15.out⟩
    · have e9 : (checkF g fx != 0) = true := bne_iff_ne.2 hck
      clear hck
      generalize checkF g fx = z at *
      go_wp2
      go_ret
      exact ⟨rfl, HE4.out⟩
set_option maxRecDepth 100000 in
set_option maxHeartbeats 8000000 in
theorem law_fold1 (g : Lg) (fx : List Fx) (i n : Int) (v : Value) (A : Option Addr) (c : Nat) (w : World) (hv : LgV w v g) (hf : Rd elFx w A fx) (hn0 : 0 ≤ n) (hbg : ∀ (k : Nat) (x : Br), i = k → g.brs[k]? = some x → ((lvMk g x.name).length : Int) < n) :
    Calls Tryz.prog 6 #[v, .slice A fx.length c, .int .i64 i, .int .i64 n] w fun e w' => e = .returned (.bool true) ∧ Ext w w' := by
  obtain ⟨A0, c0, A1, c1, A2, c2, rfl, h0, h1, h2, r0, r1, r2⟩ := hv.ex
  go_enter Tryz.func6, Tryz.ntmps6
  go_wp2_with (with_reducible refine stop_box ?_)
  refine Stop.go ?_
  refine ev_box3 (c0 := .slice A0 g.known.length c0) (c1 := .slice A1 g.brs.length c1) (c2 := .slice A2 g.evs.length c2) rfl ?_
  intro g1 w1 hb_g1 he hg_g1 k0 k1 k2
  have HE := Lib.hid he
  have HV := Lib.hid (hv.ext he)
  have RF := Lib.hid (hf.ext he)
  have R1 := Lib.hid (r1.ext he)
  clear he r0 r1 r2 hv hf hb_g1 hg_g1
  go_wp2_with fail
  refine (law34_alive w1).mono ?_
  rintro e w2 ⟨rfl, he2⟩
  replace k0 := he2.cell k0
  replace k1 := he2.cell k1
  replace k2 := he2.cell k2
  have HE2 := Lib.hid (HE.out.trans he2)
  have HV2 := Lib.hid (HV.out.ext he2)
  have RF2 := Lib.hid (RF.out.ext he2)
  have R12 := Lib.hid (R1.out.ext he2)
  clear he2 HE HV RF R1
  go_wp2_with fail
  refine (ref34_Great g fx _ A c w2 HV2.out RF2.out).mono ?_
  rintro e w3 ⟨b, rfl, he3⟩
  replace k0 := he3.cell k0
  replace k1 := he3.cell k1
  replace k2 := he3.cell k2
  have HE3 := Lib.hid (HE2.out.trans he3)
  have HV3 := Lib.hid (HV2.out.ext he3)
  have RF3 := Lib.hid (RF2.out.ext he3)
  have R13 := Lib.hid (R12.out.ext he3)
  clear he3 HE2 HV2 RF2 R12
  cases b with
  | true =>
    go_wp2
    go_ret
    exact ⟨rfl, HE3.out⟩
  | false =>
    go_wp2_with fail
    refine (ref34_Check g fx _ A c w3 HV3.out RF3.out).mono ?_
    rintro e w4 ⟨rfl, he4⟩
    replace k0 := he4.cell k0
    replace k1 := he4.cell k1
    replace k2 := he4.cell k2
    have HE4 := Lib.hid (HE3.out.trans he4)
    have HV4 := Lib.hid (HV3.out.ext he4)
    have RF4 := Lib.hid (RF3.out.ext he4)
    have R14 := Lib.hid (R13.out.ext he4)
    clear he4 HE3 HV3 RF3 R13
    by_cases hck : checkF g fx = 0
    · have hb8 : g.brs.length ≤ 8 := (checkB_zero (checkL_zero (checkF_zero hck).1).1.1.1.1.2).1
      by_cases hi0 : i < 0
      · rw [hck]
        clear hck
        go_wp2
        go_ret
        exact ⟨rfl, HE4.out⟩
      · by_cases hi1 : (g.brs.length : Int) ≤ i
        · rw [hck]
          clear hck
          go_wp2
          go_ret
          exact ⟨rfl, HE4.out⟩
        · obtain ⟨ki, rfl⟩ : ∃ k : Nat, i = k := ⟨i.toNat, by omega⟩
          have hki : ki < g.brs.length := by omega
          have hx : g.brs[ki]? = some g.brs[ki] := List.getElem?_eq_getElem hki
          have hxm : g.brs[ki] ∈ g.brs := List.getElem_mem hki
          generalize g.brs[ki] = x at hx hxm
          have hnX := hbg ki x rfl hx
          clear hbg
          have hle := fold_err (checkF_zero hck).1 hxm
          obtain ⟨i0, hv1, hv2, hvl, hv3, hmo, hlen⟩ := lv_facts hle
          have HVE := Lib.hid (lvErr_zero hle).2
          have HVL := Lib.hid hvl
          have HMO := Lib.hid hmo
          have HCLS := Lib.hid (lvMk_cls hle)
          have HCK := Lib.hid hck
          have HXM := Lib.hid hxm
          have hev8 : g.evs.length ≤ 8 := by have := (checkL_zero (checkF_zero hck).1).1.1.1.2; omega
          have hf30 := (checkF_zero hck).2.1
          obtain ⟨ad, rfl, q0, q1, q2⟩ := R14.out.br hx
          have hq0 := q0
          rw [hck]
          have hk0 : ¬ (ki : Int) < 0 := by omega
          clear hck hle hvl hmo hxm hi0 hi1 q1 q2 hx hv1 hv2 hv3
          go_wp2_with fail
          have y0 : ∀ y : Up w4, y.u.cell? _ = _ := fun y => y.ext.cell k0
          have y1 : ∀ y : Up w4, y.u.cell? _ = _ := fun y => y.ext.cell k1
          have y2 : ∀ y : Up w4, y.u.cell? _ = _ := fun y => y.ext.cell k2
          have HCNT := Lib.hid (ref29_Counts g _ w4.drew (HV4.out.ext (Ext.refl w4).drew) (by omega))
          refine wp_region_planU [(true, 0), (true, 1), (true, 2), (true, 4), (false, 3), (false, 5), (true, 6), (true, 7), (true, 8), (true, 9), (true, 10)] (by kernel_rfl) (by kernel_rfl) ?_
          iterate 4 ((try go_frame); refine plan_read ?_; go_big_quiet_step (fail); refine wpQuiet_nil ?_)
          refine plan_enter (F := 33) rfl (fun _ _ => by kernel_rfl) (Ext.refl w4).drew (HCNT.out.mono ?_)
          rintro e w5 ⟨r, rfl, hfr, he5⟩
          refine ⟨_, rfl, he5, ?_⟩
          have hE5 : Ext w4 w5 := (Ext.refl w4).drew.trans he5
          obtain ⟨A3, c3, rfl, hc3, hr3⟩ := hfr.sl
          refine plan_enter (F := 32) rfl (fun _ _ => by kernel_rfl) hE5 ((ref26_View g.brs (cnts g) x.name (some ad) A3 c1 c3 w5 (R14.out.ext hE5) hr3 h1).mono ?_)
          rintro e w6 ⟨r, rfl, hfr2, he6⟩
          refine ⟨_, rfl, he6, ?_⟩
          rw [HVE.out]
          rw [HVL.out] at hfr2
          obtain ⟨A5, c5, rfl, hc5, hr5⟩ := hfr2.sl
          iterate 5 ((try go_frame); refine plan_read ?_; go_big_quiet_step (fail); refine wpQuiet_nil ?_)
          refine plan_end ?_
          have hE6 : Ext w4 w6 := hE5.trans he6
          replace k0 := hE6.cell k0
          replace k1 := hE6.cell k1
          replace k2 := hE6.cell k2
          have HE6 := Lib.hid (HE4.out.trans hE6)
          have HV6 := Lib.hid (HV4.out.ext hE6)
          have RF6 := Lib.hid (RF4.out.ext hE6)
          have R16 := Lib.hid (R14.out.ext hE6)
          have HVW := Lib.hid hr5
          have HC5 := Lib.hid hc5
          clear hfr hfr2 he5 he6 hE5 hE6 hr3 hc3 hr5 HCNT y0 y1 y2 HE4 HV4 RF4 R14 q0 hq0 hc5
          obtain ⟨L, hL⟩ : ∃ L, L = (lvMk g x.name).length := ⟨_, rfl⟩
          rw [← hL] at hlen hnX ⊢
          have HL := Lib.hid hL
          clear hL
          have hnL : (L : Int) < n := hnX
          clear hnX
          have HSEEN := Lib.hid (ref29_Seen g (lvMk g x.name) L _ A5 c5 w6 HV6.out HVW.out HC5.out HMO.out (by have := HL.out; omega) (by omega))
          rw [← HL.out] at HSEEN
          go_wp2_with fail
          refine HSEEN.out.mono ?_
          rintro e w7 ⟨r, rfl, hown, he7⟩
          have HSC : Hid (∀ ev, ev ∈ evsOf g ((lvMk g x.name).take L) → 0 ≤ cls g ev.chg ∧ cls g ev.chg < 30) := Lib.hid (by
            intro ev hev
            obtain ⟨mk, hmk, rfl⟩ := List.mem_map.1 hev
            exact (HCLS.out mk (List.mem_of_mem_take hmk)).2)
          have HTH := Lib.hid (fold_then HCK.out HXM.out (m := L) (by have := HL.out; omega))
          generalize evsOf g ((lvMk g x.name).take L) = S at *
          obtain ⟨A7, c7, rfl, hc7, hr7⟩ := hown.sl
          replace k0 := he7.cell k0
          replace k1 := he7.cell k1
          replace k2 := he7.cell k2
          have HR7 := Lib.hid hr7
          have HE7 := Lib.hid (HE6.out.trans he7)
          have HV7 := Lib.hid (HV6.out.ext he7)
          have RF7 := Lib.hid (RF6.out.ext he7)
          have R17 := Lib.hid (R16.out.ext he7)
          have hS := hr7.1
          clear hown he7 hc7 hr7 HSEEN HE6 HV6 RF6 R16 HVW
          go_wp2_with (with_reducible refine stop_alloc ?_)
          refine Stop.go ?_
          refine ev_alloc _ zTb ?_
          intro b w8 hb8' he8 hg8
          have HT8 : Hid (Tb w8 b (innF g (S.take 0))) := Lib.hid (by rw [List.take_zero, innF_nil]; exact hb8')
          have HE8 := Lib.hid he8
          have HB := Lib.hid hg8
          clear hb8' he8 hg8
          have y0 : ∀ y : Up w7, y.u.cell? _ = _ := fun y => y.ext.cell k0
          have y1 : ∀ y : Up w7, y.u.cell? _ = _ := fun y => y.ext.cell k1
          have y2 : ∀ y : Up w7, y.u.cell? _ = _ := fun y => y.ext.cell k2
          go_wp2
          go_loopw [15] (fun i wr => ∃ k : Nat, k ≤ S.length ∧ i = .int .i64 (k : Int) ∧ Hid (Tb wr b (innF g (S.take k))) ∧ Hid (Ext w7 wr)) (fun i _ => S.length - (intOf i).toNat)
          case atStart => exact ⟨0, Nat.zero_le _, rfl, HT8.out, HE8.out⟩
          case round =>
            clear HT8 HE8
            obtain ⟨k, hk, rfl, HT, hE⟩ := hrel
            by_cases hlt : k < S.length
            · have hs : S[k]? = some S[k] := List.getElem?_eq_getElem hlt
              obtain ⟨cl0, cl1⟩ := HSC.out S[k] (List.getElem_mem hlt)
              generalize S[k] = ev at hs cl0 cl1
              obtain ⟨adS, e0, q0, q1⟩ := HR7.out.ev hs
              cases e0
              obtain ⟨cN, hcN⟩ : ∃ cN : Nat, cls g ev.chg = cN := ⟨(cls g ev.chg).toNat, by omega⟩
              have HCN := Lib.hid hcN
              have HSN : Hid (innF g (S.take (k + 1)) = upd (innF g (S.take k)) cN (decide (ev.kind ≠ 3))) := Lib.hid (by rw [List.take_add_one, hs]; exact innF_snoc hcN)
              have HCC := Lib.hid (ref29_Class g ev.chg _ wr.drew (HV7.out.ext hE.out.drew))
              rw [hcN] at HCC cl0 cl1
              clear hs hcN cl0
              have z0 : ∀ y : Up w7, y.u.cell? _ = _ := fun y => y.ext.cell q0
              have z1 : ∀ y : Up w7, y.u.cell? _ = _ := fun y => y.ext.cell q1
              go_wp2
              refine wp_region_planE hE.out [(true, 0), (true, 1), (true, 2), (true, 3), (true, 4), (true, 5), (true, 7), (true, 8), (true, 9), (true, 10), (true, 11), (true, 12), (false, 6), (true, 13), (false, 14)] (by kernel_rfl) (by kernel_rfl) ?_
              iterate 12 ((try go_frame); refine plan_read ?_; go_big_quiet_step (fail); refine wpQuiet_nil ?_)
              refine plan_enter (F := 35) rfl (fun _ _ => by kernel_rfl) hE.out.drew (HCC.out.mono ?_)
              rintro e w9 ⟨rfl, he9⟩
              refine ⟨_, rfl, he9, ?_⟩
              iterate 1 ((try go_frame); refine plan_read ?_; go_big_quiet_step (fail); refine wpQuiet_nil ?_)
              have HT9 : Tb w9 b (innF g (S.take k)) := ((Ext.refl wr).drew.trans he9).blk HT.out
              have t0 := HT9.get (c := cN) (by omega)
              have t1 := blk_frozen HT9 cN
              have HT10 := Lib.hid (HT9.set cN (ev.kind != 3))
              have HE9 := Lib.hid (hE.out.drew.trans he9)
              clear HT9 he9 HCC z0 z1 HT
              refine plan_one rfl ?_
              go_wp2_with fail
              have HE10 := Lib.hid ((Turned.setCell w9 b cN (.bool (ev.kind != 3))).ext HE9.out HB.out)
              refine ⟨HE10.out, plan_end ?_⟩
              have HT11 : Hid (Tb (w9.setCell ⟨b, cN, none⟩ (.bool (ev.kind != 3))) b (innF g (S.take (k + 1)))) := Lib.hid (by
                have hkk : (ev.kind != 3) = decide (ev.kind ≠ 3) := by by_cases h : ev.kind = 3 <;> simp [h]
                rw [HSN.out, ← hkk]; exact HT10.out)
              generalize w9.setCell ⟨b, cN, none⟩ (.bool (ev.kind != 3)) = w10 at *
              clear HT10 HE9 HSN t0 t1
              go_wp2
              go_roundw
              case rel => exact ⟨k + 1, by omega, by go_num, HT11.out, HE10.out⟩
              case measure => simp [intOf]; omega
            · have HTE : Hid (Tb wr b (innF g S)) := Lib.hid (by have := HT.out; rw [List.take_of_length_le (by omega)] at this; exact this)
              clear HT y0 y1 y2
              replace k0 := hE.out.cell k0
              replace k1 := hE.out.cell k1
              replace k2 := hE.out.cell k2
              have HEr := Lib.hid (HE7.out.trans hE.out)
              have HVr := Lib.hid (HV7.out.ext hE.out)
              have RFr := Lib.hid (RF7.out.ext hE.out)
              have R1r := Lib.hid (R17.out.ext hE.out)
              have HTN := Lib.hid (missing_Then g fx x.name (L : Nat) _ A c wr HVr.out RFr.out)
              rw [HTH.out.1, HTH.out.2] at HTN
              have HGF : Hid (∀ f, f ∈ fx → (∀ y, y ∈ ordL fx [(x.name, effL g S)] → y.cls = f.cls → y = ⟨x.name, f.cls, f.wt⟩) ∧ cntC (ordL fx [(x.name, effL g S)]) f.cls = (if (wanted f x.name && !innF g S f.cls.toNat) = true then 1 else 0) ∧ 0 ≤ f.cls ∧ f.cls < 30) := Lib.hid (fun f hf => by
                have hfo := fxOk_of HCK.out
                have hc := hfo.cls f hf
                have hi : innF g S f.cls.toNat = inP g S f.cls := by unfold innF; rw [Int.toNat_of_nonneg hc.1]
                refine ⟨gap_fix hfo hf, ?_, hc⟩
                rw [gap_count hfo hf, mem_effL hc, hi])
              have HGL : Hid ((ordL fx [(x.name, effL g S)]).length ≤ fx.length) := Lib.hid (fold_len (fxOk_of HCK.out) _)
              clear hE HE7 HV7 RF7 R17 HTH HSC HR7
              generalize ordL fx [(x.name, effL g S)] = G at *
              go_wp2_with fail
              refine HTN.out.mono ?_
              rintro e w11 ⟨r, rfl, hown, he11⟩
              obtain ⟨A9, c9, rfl, hc9, hr9⟩ := hown.sl
              replace k0 := he11.cell k0
              replace k1 := he11.cell k1
              replace k2 := he11.cell k2
              have HR9 := Lib.hid hr9
              have HE11 := Lib.hid (HEr.out.trans he11)
              have HV11 := Lib.hid (HVr.out.ext he11)
              have RF11 := Lib.hid (RFr.out.ext he11)
              have R111 := Lib.hid (R1r.out.ext he11)
              have HT11 := Lib.hid (he11.blk HTE.out)
              have hGl := hr9.1
              have hGL := HGL.out
              clear hown he11 hc9 hr9 HTN HEr HVr RFr R1r HTE
              go_wp2
              go_loopw [8, 18] (fun r i wr => ∃ k : Nat, k ≤ fx.length ∧ r = .bool false ∧ i = .int .i64 (k : Int) ∧ Hid (Ext w11 wr)) (fun _ i _ => fx.length - (intOf i).toNat)
              case atStart => exact ⟨0, Nat.zero_le _, rfl, rfl, Ext.refl _⟩
              case round =>
                obtain ⟨k, hk, rfl, rfl, hE⟩ := hrel
                by_cases hlt : k < fx.length
                · have hfk : fx[k]? = some fx[k] := List.getElem?_eq_getElem hlt
                  obtain ⟨hgf, hgc, hc0, hc1⟩ := HGF.out fx[k] (List.getElem_mem hlt)
                  generalize fx[k] = f at hfk hgf hgc hc0 hc1
                  obtain ⟨af, B, cB, e0, f0, f1, f2, hcB, qr⟩ := RF11.out.fx hfk
                  cases e0
                  have HF0 := Lib.hid f0
                  have HF1 := Lib.hid f1
                  have HF2 := Lib.hid f2
                  have HQR := Lib.hid qr
                  have HGFk := Lib.hid hgf
                  have HGCk := Lib.hid hgc
                  clear hfk hgf hgc f0 f1 f2 qr
                  go_wp2
                  go_loopw [8, 19, 20] (fun r o j wr => ∃ t : Nat, t ≤ G.length ∧ r = .bool false ∧ j = .int .i64 (t : Int) ∧ o = .int .i64 (cntC (G.take t) f.cls : Nat) ∧ Hid (Ext w11 wr)) (fun _ _ j _ => G.length - (intOf j).toNat)
                  case atStart => exact ⟨0, Nat.zero_le _, rfl, rfl, rfl, hE.out⟩
                  case round =>
                    obtain ⟨t, ht, rfl, rfl, rfl, hEj⟩ := hrel
                    by_cases hlt2 : t < G.length
                    · have hy : G[t]? = some G[t] := List.getElem?_eq_getElem hlt2
                      have hyf := HGFk.out G[t] (List.getElem_mem hlt2)
                      generalize G[t] = y at hy hyf
                      obtain ⟨ay, e0, g0, g1', g2⟩ := HR9.out.gp hy
                      cases e0
                      have HCT := Lib.hid (cntC_take f.cls hy)
                      have hcl := cntC_le (G.take t) f.cls
                      have hcl2 : (G.take t).length ≤ 30 := by rw [List.length_take]; omega
                      have a0 := hEj.out.cell g0
                      have a1 := hEj.out.cell g1'
                      have a2 := hEj.out.cell g2
                      have b0 := hEj.out.cell HF0.out
                      have b1 := hEj.out.cell HF1.out
                      clear hy g0 g1' g2
                      obtain ⟨yb, yc, yw⟩ := y
                      simp only at a0 a1 a2 HCT hyf
                      generalize cntC (G.take t) f.cls = q at *
                      by_cases hyc : yc = f.cls
                      · have hye := hyf hyc
                        simp only [Gp.mk.injEq] at hye
                        obtain ⟨rfl, _, rfl⟩ := hye
                        subst hyc
                        have HC2 : Hid (cntC (G.take (t + 1)) f.cls = q + 1) := Lib.hid (HCT.out.trans (if_pos rfl))
                        clear HCT hyf
                        have y0 : ∀ y : Up wr, y.u.cell? _ = _ := fun y => y.ext.cell a0
                        have y1 : ∀ y : Up wr, y.u.cell? _ = _ := fun y => y.ext.cell a1
                        have y2 : ∀ y : Up wr, y.u.cell? _ = _ := fun y => y.ext.cell a2
                        have y3 : ∀ y : Up wr, y.u.cell? _ = _ := fun y => y.ext.cell b0
                        have y4 : ∀ y : Up wr, y.u.cell? _ = _ := fun y => y.ext.cell b1
                        go_wp2
                        refine wp_quietU (by kernel_rfl) (by kernel_rfl) ?_
                        repeat (go_big_quiet_step (fail))
                        refine wpQuiet_nil ?_
                        rintro wk ⟨u1, hu1⟩
                        have hwk : Ext wr wk := by rw [hu1]; exact u1.ext
                        clear hu1 u1 y0 y1 y2 y3 y4
                        replace a0 := hwk.cell a0
                        replace a1 := hwk.cell a1
                        replace a2 := hwk.cell a2
                        replace b0 := hwk.cell b0
                        replace b1 := hwk.cell b1
                        have HEk := Lib.hid (hEj.out.trans hwk)
                        clear hwk hEj
                        have y0 : ∀ y : Up wk, y.u.cell? _ = _ := fun y => y.ext.cell a0
                        have y1 : ∀ y : Up wk, y.u.cell? _ = _ := fun y => y.ext.cell a1
                        have y2 : ∀ y : Up wk, y.u.cell? _ = _ := fun y => y.ext.cell a2
                        have y3 : ∀ y : Up wk, y.u.cell? _ = _ := fun y => y.ext.cell b0
                        have y4 : ∀ y : Up wk, y.u.cell? _ = _ := fun y => y.ext.cell b1
                        go_wp2
                        refine wp_quietU (by kernel_rfl) (by kernel_rfl) ?_
                        repeat (go_big_quiet_step (fail))
                        refine wpQuiet_nil ?_
                        rintro wl ⟨u1, hu1⟩
                        have hwl : Ext wk wl := by rw [hu1]; exact u1.ext
                        have HEl := Lib.hid (HEk.out.trans hwl)
                        clear hu1 u1 y0 y1 y2 y3 y4 hwl HEk a0 a1 a2 b0 b1
                        go_wp2
                        go_roundw
                        case rel => exact ⟨t + 1, by omega, rfl, by go_num, by rw [HC2.out]; go_num, HEl.out⟩
                        case measure => simp [intOf]; omega
                      · have HC2 : Hid (cntC (G.take (t + 1)) f.cls = q) := Lib.hid (HCT.out.trans (if_neg hyc))
                        have e1 : (yc == f.cls) = false := beq_eq_false_iff_ne.2 hyc
                        clear HCT hyf hyc
                        have y0 : ∀ y : Up wr, y.u.cell? _ = _ := fun y => y.ext.cell a0
                        have y1 : ∀ y : Up wr, y.u.cell? _ = _ := fun y => y.ext.cell a1
                        have y2 : ∀ y : Up wr, y.u.cell? _ = _ := fun y => y.ext.cell a2
                        have y3 : ∀ y : Up wr, y.u.cell? _ = _ := fun y => y.ext.cell b0
                        have y4 : ∀ y : Up wr, y.u.cell? _ = _ := fun y => y.ext.cell b1
                        go_wp2
                        refine wp_quietU (by kernel_rfl) (by kernel_rfl) ?_
                        repeat (go_big_quiet_step (fail))
                        refine wpQuiet_nil ?_
                        rintro wk ⟨u1, hu1⟩
                        have hwk : Ext wr wk := by rw [hu1]; exact u1.ext
                        have HEk := Lib.hid (hEj.out.trans hwk)
                        clear hu1 u1 y0 y1 y2 y3 y4 hwk hEj a0 a1 a2 b0 b1
                        go_wp2
                        go_roundw
                        case rel => exact ⟨t + 1, by omega, rfl, by go_num, by rw [HC2.out], HEk.out⟩
                        case measure => simp [intOf]; omega
                    · have HCG : Hid (cntC (G.take t) f.cls = if (wanted f x.name && !innF g S f.cls.toNat) = true then 1 else 0) := Lib.hid (by rw [List.take_of_length_le (by omega)]; exact HGCk.out)
                      obtain ⟨fN, hfN⟩ : ∃ fN : Nat, f.cls = fN := ⟨f.cls.toNat, by omega⟩
                      have b0 := hEj.out.cell HF0.out
                      have b1 := hEj.out.cell HF1.out
                      have b2 := hEj.out.cell HF2.out
                      have HTj : Tb wr b (innF g S) := hEj.out.blk HT11.out
                      have t0 := HTj.get (c := fN) (by omega)
                      have HWT := Lib.hid (ref34_Wanted f x.name B cB wr (HQR.out.ext hEj.out))
                      have HEjj := Lib.hid hEj.out
                      rw [hfN] at HWT b0 hc0 hc1
                      rw [hfN, Int.toNat_natCast] at HCG
                      clear hEj HTj
                      cases hW : wanted f x.name with
                      | true =>
                        cases hI : innF g S fN with
                        | true =>
                          have HC0 : Hid (cntC (G.take t) f.cls = 0) := Lib.hid (by rw [hfN, HCG.out, hW, hI]; rfl)
                          rw [HC0.out]
                          rw [hI] at t0
                          rw [hW] at HWT
                          clear HCG hW hI
                          go_wp2_with fail
                          refine HWT.out.mono ?_
                          rintro e wm ⟨rfl, hem⟩
                          replace b0 := hem.cell b0
                          replace b1 := hem.cell b1
                          replace b2 := hem.cell b2
                          replace t0 := hem.cell t0
                          have HEm := Lib.hid (HEjj.out.trans hem)
                          clear hem HEjj HWT
                          go_wp2
                          go_roundw
                          case rel => exact ⟨k + 1, by omega, rfl, by go_num, HEm.out⟩
                          case measure => simp [intOf]; omega
                        | false =>
                          have HC0 : Hid (cntC (G.take t) f.cls = 1) := Lib.hid (by rw [hfN, HCG.out, hW, hI]; rfl)
                          rw [HC0.out]
                          rw [hI] at t0
                          rw [hW] at HWT
                          clear HCG hW hI
                          go_wp2_with fail
                          refine HWT.out.mono ?_
                          rintro e wm ⟨rfl, hem⟩
                          replace b0 := hem.cell b0
                          replace b1 := hem.cell b1
                          replace b2 := hem.cell b2
                          replace t0 := hem.cell t0
                          have HEm := Lib.hid (HEjj.out.trans hem)
                          clear hem HEjj HWT
                          go_wp2
                          go_roundw
                          case rel => exact ⟨k + 1, by omega, rfl, by go_num, HEm.out⟩
                          case measure => simp [intOf]; omega
                      | false =>
                        have HC0 : Hid (cntC (G.take t) f.cls = 0) := Lib.hid (by rw [hfN, HCG.out, hW]; rfl)
                        rw [HC0.out]
                        rw [hW] at HWT
                        clear HCG hW
                        go_wp2_with fail
                        refine HWT.out.mono ?_
                        rintro e wm ⟨rfl, hem⟩
                        replace b0 := hem.cell b0
                        replace b1 := hem.cell b1
                        replace b2 := hem.cell b2
                        replace t0 := hem.cell t0
                        have HEm := Lib.hid (HEjj.out.trans hem)
                        clear hem HEjj HWT
                        go_wp2
                        go_roundw
                        case rel => exact ⟨k + 1, by omega, rfl, by go_num, HEm.out⟩
                        case measure => simp [intOf]; omega
                · replace k0 := hE.out.cell k0
                  replace k1 := hE.out.cell k1
                  replace k2 := hE.out.cell k2
                  have HEr := Lib.hid (HE11.out.trans hE.out)
                  have HVr := Lib.hid (HV11.out.ext hE.out)
                  have RFr := Lib.hid (RF11.out.ext hE.out)
                  have HGA := Lib.hid (missing_Gaps g fx _ A c wr HVr.out RFr.out)
                  have HFO := Lib.hid (fold_own HCK.out HXM.out)
                  have HTE2 := Lib.hid (fold_then HCK.out HXM.out (m := L) (by have := HL.out; omega)).1
                  have hal := (gaps_facts HCK.out).1
                  have HBFO : Hid (∀ (k : Nat) (a b : Gp), (gapsL g fx)[k]? = some a → (gapsL g fx)[k + 1]? = some b → cmpG (fun s => idx g.brs s) a b < 0) := Lib.hid (fun k a b ha hb => fold_before HCK.out ha hb)
                  rw [HCK.out] at HGA
                  rw [← HL.out] at HFO
                  clear hE HE11 HV11 RF11 R111 HGF HT11 HR9
                  generalize gapsL g fx = AL at *
                  go_wp2_with fail
                  refine HGA.out.mono ?_
                  rintro e w12 ⟨r, rfl, hown, he12⟩
                  obtain ⟨A12, c12, rfl, hc12, hr12⟩ := hown.sl
                  have HTN2 := Lib.hid (missing_Then g fx x.name (L : Nat) _ A c w12 (HVr.out.ext he12) (RFr.out.ext he12))
                  rw [HTE2.out] at HTN2
                  generalize thenL g fx x.name (L : Int) = EN at *
                  replace k0 := he12.cell k0
                  replace k1 := he12.cell k1
                  replace k2 := he12.cell k2
                  have HR12 := Lib.hid hr12
                  have HE12 := Lib.hid he12
                  clear hown he12 hc12 hr12 HGA
                  go_wp2_with fail
                  refine HTN2.out.mono ?_
                  rintro e w13 ⟨r, rfl, hown2, he13⟩
                  obtain ⟨A13, c13, rfl, hc13, hr13⟩ := hown2.sl
                  replace k0 := he13.cell k0
                  replace k1 := he13.cell k1
                  replace k2 := he13.cell k2
                  have HRA := Lib.hid (HR12.out.ext he13)
                  have HRE := Lib.hid hr13
                  have HE13 := Lib.hid (HEr.out.trans (HE12.out.trans he13))
                  have HV13 := Lib.hid (HVr.out.ext (HE12.out.trans he13))
                  have hal2 := HRA.out.1
                  clear hown2 he13 hc13 hr13 HTN2 HR12 HE12 HEr HVr RFr HTE2
                  go_wp2
                  go_loopw [8, 26, 27] (fun r o t wr => ∃ k : Nat, k ≤ AL.length ∧ r = .bool false ∧ t = .int .i64 (k : Int) ∧ Hid (Own elGp 62 w13.heap.size wr o ((AL.take k).filter fun y => decide (y.br = x.name))) ∧ Hid (Ext w13 wr)) (fun _ _ t _ => AL.length - (intOf t).toNat)
                  case atStart => exact ⟨0, Nat.zero_le _, rfl, rfl, Own.nil _ _ _ _, Ext.refl _⟩
                  case round =>
                    obtain ⟨k, hk, rfl, rfl, HO, hE⟩ := hrel
                    by_cases hlt : k < AL.length
                    · have hy : AL[k]? = some AL[k] := List.getElem?_eq_getElem hlt
                      generalize AL[k] = y at hy
                      obtain ⟨ay, e0, aw0, aw1, aw2⟩ := HRA.out.gp hy
                      cases e0
                      obtain ⟨yb, yc, yw⟩ := y
                      simp only at aw0 aw1 aw2
                      have a0 := hE.out.cell aw0
                      have a1 := hE.out.cell aw1
                      have a2 := hE.out.cell aw2
                      have HA0 := Lib.hid aw0
                      have HA1 := Lib.hid aw1
                      have HA2 := Lib.hid aw2
                      clear aw0 aw1 aw2
                      have HY := Lib.hid hy
                      have hfl : ((AL.take k).filter fun y => decide (y.br = x.name)).length < 1000000 := by
                        have h1 := List.length_filter_le (fun y : Gp => decide (y.br = x.name)) (AL.take k)
                        rw [List.length_take] at h1
                        omega
                      by_cases hyb : yb = x.name
                      · subst hyb
                        have HFT : Hid ((AL.take (k + 1)).filter (fun y => decide (y.br = x.name)) = (AL.take k).filter (fun y => decide (y.br = x.name)) ++ [⟨x.name, yc, yw⟩]) := Lib.hid (by rw [List.take_add_one, HY.out, List.filter_append]; simp)
                        clear hy
                        go_wp2_with (with_reducible refine stop_lit ?_)
                        refine Stop.go ?_
                        refine ev_appGp ⟨x.name, yc, yw⟩ rfl (fun _ => rfl) (fun _ => rfl) HO.out hE.out rfl hfl ?_
                        intro u v5 w5 ho5 he5 hg5 hat5
                        have HOz : Hid (Own elGp 62 w13.heap.size w5 v5 ((AL.take (k + 1)).filter fun y => decide (y.br = x.name))) := Lib.hid (by rw [HFT.out]; exact ho5)
                        have HEz := Lib.hid he5
                        replace a0 := he5.cell HA0.out
                        replace a1 := he5.cell HA1.out
                        replace a2 := he5.cell HA2.out
                        clear ho5 he5 hg5 hat5 HFT HO hE hfl
                        have HVz := Lib.hid (HV13.out.ext HEz.out)
                        have p0 := HEz.out.cell k0
                        have p1 := HEz.out.cell k1
                        have p2 := HEz.out.cell k2
                        go_wp2
                        rcases Nat.eq_zero_or_pos k with hk0 | hkp
                        · have hk1 : decide ((0 : Int) < (k : Int)) = false := decide_eq_false (by omega)
                          have hk3 : ¬ 0 < k := by omega
                          have hk4 : decide (0 < k) = false := decide_eq_false hk3
                          clear hk0
                          have y0 : ∀ y : Up w5, y.u.cell? _ = _ := fun y => y.ext.cell p0
                          have y1 : ∀ y : Up w5, y.u.cell? _ = _ := fun y => y.ext.cell p1
                          have y2 : ∀ y : Up w5, y.u.cell? _ = _ := fun y => y.ext.cell p2
                          refine wp_quietU (by kernel_rfl) (by kernel_rfl) ?_
                          repeat (go_big_quiet_step (fail))
                          refine wpQuiet_nil ?_
                          rintro wq ⟨u1, hu1⟩
                          have hwq : Ext w5 wq := by rw [hu1]; exact u1.ext
                          have HOq := Lib.hid (HOz.out.ext hwq)
                          have HEq := Lib.hid (HEz.out.trans hwq)
                          clear hu1 u1 y0 y1 y2 hwq HOz HEz p0 p1 p2 hk1 hk3 hk4
                          go_wp2
                          go_roundw
                          case rel => exact ⟨k + 1, by omega, rfl, by go_num, HOq.out, HEq.out⟩
                          case measure => simp [intOf]; omega
                        · obtain ⟨s, rfl⟩ : ∃ s, k = s + 1 := ⟨k - 1, by omega⟩
                          have hz : AL[s]? = some AL[s] := List.getElem?_eq_getElem (by omega)
                          have hbf := HBFO.out s AL[s] _ hz HY.out
                          generalize AL[s] = z at hz hbf
                          obtain ⟨az, e0, d0, d1, d2⟩ := (HRA.out.ext HEz.out).gp hz
                          cases e0
                          obtain ⟨zb, zc, zw⟩ := z
                          simp only at d0 d1 d2
                          have HBF : Hid (∀ y : Up w5, _) := Lib.hid fun y : Up w5 => quietU (law34_before g ⟨zb, zc, zw⟩ _ _ y.u (HVz.out.ext y.ext) hbf)
                          have hk1 : decide ((0 : Int) < ((s + 1 : Nat) : Int)) = true := decide_eq_true (by omega)
                          have hk2 : decide ((0 : Int) < (s : Int) + 1) = true := decide_eq_true (by omega)
                          clear hz hbf
                          have y0 : ∀ y : Up w5, y.u.cell? _ = _ := fun y => y.ext.cell p0
                          have y1 : ∀ y : Up w5, y.u.cell? _ = _ := fun y => y.ext.cell p1
                          have y2 : ∀ y : Up w5, y.u.cell? _ = _ := fun y => y.ext.cell p2
                          have y3 : ∀ y : Up w5, y.u.cell? _ = _ := fun y => y.ext.cell d0
                          have y4 : ∀ y : Up w5, y.u.cell? _ = _ := fun y => y.ext.cell d1
                          have y5 : ∀ y : Up w5, y.u.cell? _ = _ := fun y => y.ext.cell d2
                          have y6 : ∀ y : Up w5, y.u.cell? _ = _ := fun y => y.ext.cell a0
                          have y7 : ∀ y : Up w5, y.u.cell? _ = _ := fun y => y.ext.cell a1
                          have y8 : ∀ y : Up w5, y.u.cell? _ = _ := fun y => y.ext.cell a2
                          refine wp_quietU (by kernel_rfl) (by kernel_rfl) ?_
                          repeat (go_big_quiet_step ((first | (go_at_call 37; exact HBF.out _))))
                          refine wpQuiet_nil ?_
                          rintro wq ⟨u1, hu1⟩
                          have hwq : Ext w5 wq := by rw [hu1]; exact u1.ext
                          have HOq := Lib.hid (HOz.out.ext hwq)
                          have HEq := Lib.hid (HEz.out.trans hwq)
                          clear hu1 u1 y0 y1 y2 y3 y4 y5 y6 y7 y8 hwq HOz HEz p0 p1 p2 d0 d1 d2 a0 a1 a2 HBF HVz hk1 hk2
                          go_wp2
                          go_roundw
                          case rel => exact ⟨s + 1 + 1, by omega, rfl, by go_num, HOq.out, HEq.out⟩
                          case measure => simp [intOf]; omega
                      · have e1 := seq_f hyb
                        have HFT : Hid ((AL.take (k + 1)).filter (fun y => decide (y.br = x.name)) = (AL.take k).filter (fun y => decide (y.br = x.name))) := Lib.hid (by rw [List.take_add_one, HY.out, List.filter_append]; simp [hyb])
                        have HOz : Hid (Own elGp 62 w13.heap.size wr _ ((AL.take (k + 1)).filter fun y => decide (y.br = x.name))) := Lib.hid (by rw [HFT.out]; exact HO.out)
                        have HEz := Lib.hid hE.out
                        clear hy hyb HFT HO hE hfl
                        have HVz := Lib.hid (HV13.out.ext HEz.out)
                        have p0 := HEz.out.cell k0
                        have p1 := HEz.out.cell k1
                        have p2 := HEz.out.cell k2
                        go_wp2
                        rcases Nat.eq_zero_or_pos k with hk0 | hkp
                        · have hk1 : decide ((0 : Int) < (k : Int)) = false := decide_eq_false (by omega)
                          have hk3 : ¬ 0 < k := by omega
                          have hk4 : decide (0 < k) = false := decide_eq_false hk3
                          clear hk0
                          have y0 : ∀ y : Up wr, y.u.cell? _ = _ := fun y => y.ext.cell p0
                          have y1 : ∀ y : Up wr, y.u.cell? _ = _ := fun y => y.ext.cell p1
                          have y2 : ∀ y : Up wr, y.u.cell? _ = _ := fun y => y.ext.cell p2
                          refine wp_quietU (by kernel_rfl) (by kernel_rfl) ?_
                          repeat (go_big_quiet_step (fail))
                          refine wpQuiet_nil ?_
                          rintro wq ⟨u1, hu1⟩
                          have hwq : Ext wr wq := by rw [hu1]; exact u1.ext
                          have HOq := Lib.hid (HOz.out.ext hwq)
                          have HEq := Lib.hid (HEz.out.trans hwq)
                          clear hu1 u1 y0 y1 y2 hwq HOz HEz p0 p1 p2 hk1 hk3 hk4
                          go_wp2
                          go_roundw
                          case rel => exact ⟨k + 1, by omega, rfl, by go_num, HOq.out, HEq.out⟩
                          case measure => simp [intOf]; omega
                        · obtain ⟨s, rfl⟩ : ∃ s, k = s + 1 := ⟨k - 1, by omega⟩
                          have hz : AL[s]? = some AL[s] := List.getElem?_eq_getElem (by omega)
                          have hbf := HBFO.out s AL[s] _ hz HY.out
                          generalize AL[s] = z at hz hbf
                          obtain ⟨az, e0, d0, d1, d2⟩ := (HRA.out.ext HEz.out).gp hz
                          cases e0
                          obtain ⟨zb, zc, zw⟩ := z
                          simp only at d0 d1 d2
                          have HBF : Hid (∀ y : Up wr, _) := Lib.hid fun y : Up wr => quietU (law34_before g ⟨zb, zc, zw⟩ _ _ y.u (HVz.out.ext y.ext) hbf)
                          have hk1 : decide ((0 : Int) < ((s + 1 : Nat) : Int)) = true := decide_eq_true (by omega)
                          have hk2 : decide ((0 : Int) < (s : Int) + 1) = true := decide_eq_true (by omega)
                          clear hz hbf
                          have y0 : ∀ y : Up wr, y.u.cell? _ = _ := fun y => y.ext.cell p0
                          have y1 : ∀ y : Up wr, y.u.cell? _ = _ := fun y => y.ext.cell p1
                          have y2 : ∀ y : Up wr, y.u.cell? _ = _ := fun y => y.ext.cell p2
                          have y3 : ∀ y : Up wr, y.u.cell? _ = _ := fun y => y.ext.cell d0
                          have y4 : ∀ y : Up wr, y.u.cell? _ = _ := fun y => y.ext.cell d1
                          have y5 : ∀ y : Up wr, y.u.cell? _ = _ := fun y => y.ext.cell d2
                          have y6 : ∀ y : Up wr, y.u.cell? _ = _ := fun y => y.ext.cell a0
                          have y7 : ∀ y : Up wr, y.u.cell? _ = _ := fun y => y.ext.cell a1
                          have y8 : ∀ y : Up wr, y.u.cell? _ = _ := fun y => y.ext.cell a2
                          refine wp_quietU (by kernel_rfl) (by kernel_rfl) ?_
                          repeat (go_big_quiet_step ((first | (go_at_call 37; exact HBF.out _))))
                          refine wpQuiet_nil ?_
                          rintro wq ⟨u1, hu1⟩
                          have hwq : Ext wr wq := by rw [hu1]; exact u1.ext
                          have HOq := Lib.hid (HOz.out.ext hwq)
                          have HEq := Lib.hid (HEz.out.trans hwq)
                          clear hu1 u1 y0 y1 y2 y3 y4 y5 y6 y7 y8 hwq HOz HEz p0 p1 p2 d0 d1 d2 a0 a1 a2 HBF HVz hk1 hk2
                          go_wp2
                          go_roundw
                          case rel => exact ⟨s + 1 + 1, by omega, rfl, by go_num, HOq.out, HEq.out⟩
                          case measure => simp [intOf]; omega
                    · have HOe : Hid (Own elGp 62 w13.heap.size wr _ EN) := Lib.hid (by have := HO.out; rw [List.take_of_length_le (by omega), HFO.out] at this; exact this)
                      obtain ⟨A14, c14, e14, hc14, hr14⟩ := HOe.out.sl
                      cases e14
                      have HS := Lib.hid (ref34_Same EN EN A14 A13 c14 c13 wr hr14 (HRE.out.ext hE.out))
                      rw [decide_eq_true rfl] at HS
                      have HEe := Lib.hid (HE13.out.trans hE.out)
                      clear HO HOe hE hr14 hc14
                      go_wp2_with fail
                      refine HS.out.mono ?_
                      rintro e w15 ⟨rfl, he15⟩
                      have HE15 := Lib.hid (HEe.out.trans he15)
                      clear HS he15 HEe
                      go_wp2
                      go_ret
                      exact ⟨rfl, HE15.out⟩
    · have e9 : (checkF g fx != 0) = true := bne_iff_ne.2 hck
      clear hck
      generalize checkF g fx = z at *
      go_wp2
      go_ret
      exact ⟨rfl, HE4.out⟩
set_option maxRecDepth 100000 in
set_option maxHeartbeats 8000000 in
theorem law_fold2 (g : Lg) (fx : List Fx) (i n : Int) (v : Value) (A : Option Addr) (c : Nat) (w : World) (hv : LgV w v g) (hf : Rd elFx w A fx) (hn0 : 0 ≤ n) (hsm : ∀ (k : Nat) (x : Br), i = k → g.brs[k]? = some x → n ≤ ((lvMk g x.name).length : Int)) :
    Calls Tryz.prog 6 #[v, .slice A fx.length c, .int .i64 i, .int .i64 n] w fun e w' => e = .returned (.bool true) ∧ Ext w w' := by
  obtain ⟨A0, c0, A1, c1, A2, c2, rfl, h0, h1, h2, r0, r1, r2⟩ := hv.ex
  go_enter Tryz.func6, Tryz.ntmps6
  go_wp2_with (with_reducible refine stop_box ?_)
  refine Stop.go ?_
  refine ev_box3 (c0 := .slice A0 g.known.length c0) (c1 := .slice A1 g.brs.length c1) (c2 := .slice A2 g.evs.length c2) rfl ?_
  intro g1 w1 hb_g1 he hg_g1 k0 k1 k2
  have HE := Lib.hid he
  have HV := Lib.hid (hv.ext he)
  have RF := Lib.hid (hf.ext he)
  have R1 := Lib.hid (r1.ext he)
  clear he r0 r1 r2 hv hf hb_g1 hg_g1
  go_wp2_with fail
  refine (law34_alive w1).mono ?_
  rintro e w2 ⟨rfl, he2⟩
  replace k0 := he2.cell k0
  replace k1 := he2.cell k1
  replace k2 := he2.cell k2
  have HE2 := Lib.hid (HE.out.trans he2)
  have HV2 := Lib.hid (HV.out.ext he2)
  have RF2 := Lib.hid (RF.out.ext he2)
  have R12 := Lib.hid (R1.out.ext he2)
  clear he2 HE HV RF R1
  go_wp2_with fail
  refine (ref34_Great g fx _ A c w2 HV2.out RF2.out).mono ?_
  rintro e w3 ⟨b, rfl, he3⟩
  replace k0 := he3.cell k0
  replace k1 := he3.cell k1
  replace k2 := he3.cell k2
  have HE3 := Lib.hid (HE2.out.trans he3)
  have HV3 := Lib.hid (HV2.out.ext he3)
  have RF3 := Lib.hid (RF2.out.ext he3)
  have R13 := Lib.hid (R12.out.ext he3)
  clear he3 HE2 HV2 RF2 R12
  cases b with
  | true =>
    go_wp2
    go_ret
    exact ⟨rfl, HE3.out⟩
  | false =>
    go_wp2_with fail
    refine (ref34_Check g fx _ A c w3 HV3.out RF3.out).mono ?_
    rintro e w4 ⟨rfl, he4⟩
    replace k0 := he4.cell k0
    replace k1 := he4.cell k1
    replace k2 := he4.cell k2
    have HE4 := Lib.hid (HE3.out.trans he4)
    have HV4 := Lib.hid (HV3.out.ext he4)
    have RF4 := Lib.hid (RF3.out.ext he4)
    have R14 := Lib.hid (R13.out.ext he4)
    clear he4 HE3 HV3 RF3 R13
    by_cases hck : checkF g fx = 0
    · have hb8 : g.brs.length ≤ 8 := (checkB_zero (checkL_zero (checkF_zero hck).1).1.1.1.1.2).1
      by_cases hi0 : i < 0
      · rw [hck]
        clear hck
        go_wp2
        go_ret
        exact ⟨rfl, HE4.out⟩
      · by_cases hi1 : (g.brs.length : Int) ≤ i
        · rw [hck]
          clear hck
          go_wp2
          go_ret
          exact ⟨rfl, HE4.out⟩
        · obtain ⟨ki, rfl⟩ : ∃ k : Nat, i = k := ⟨i.toNat, by omega⟩
          have hki : ki < g.brs.length := by omega
          have hx : g.brs[ki]? = some g.brs[ki] := List.getElem?_eq_getElem hki
          have hxm : g.brs[ki] ∈ g.brs := List.getElem_mem hki
          generalize g.brs[ki] = x at hx hxm
          have hnX := hsm ki x rfl hx
          clear hsm
          have hle := fold_err (checkF_zero hck).1 hxm
          obtain ⟨i0, hv1, hv2, hvl, hv3, hmo, hlen⟩ := lv_facts hle
          have HVE := Lib.hid (lvErr_zero hle).2
          have HVL := Lib.hid hvl
          have HMO := Lib.hid hmo
          have HCLS := Lib.hid (lvMk_cls hle)
          have HCK := Lib.hid hck
          have HXM := Lib.hid hxm
          have hev8 : g.evs.length ≤ 8 := by have := (checkL_zero (checkF_zero hck).1).1.1.1.2; omega
          have hf30 := (checkF_zero hck).2.1
          obtain ⟨ad, rfl, q0, q1, q2⟩ := R14.out.br hx
          have hq0 := q0
          rw [hck]
          have hk0 : ¬ (ki : Int) < 0 := by omega
          clear hck hle hvl hmo hxm hi0 hi1 q1 q2 hx hv1 hv2 hv3
          go_wp2_with fail
          have y0 : ∀ y : Up w4, y.u.cell? _ = _ := fun y => y.ext.cell k0
          have y1 : ∀ y : Up w4, y.u.cell? _ = _ := fun y => y.ext.cell k1
          have y2 : ∀ y : Up w4, y.u.cell? _ = _ := fun y => y.ext.cell k2
          have HCNT := Lib.hid (ref29_Counts g _ w4.drew (HV4.out.ext (Ext.refl w4).drew) (by omega))
          refine wp_region_planU [(true, 0), (true, 1), (true, 2), (true, 4), (false, 3), (false, 5), (true, 6), (true, 7), (true, 8), (true, 9), (true, 10)] (by kernel_rfl) (by kernel_rfl) ?_
          iterate 4 ((try go_frame); refine plan_read ?_; go_big_quiet_step (fail); refine wpQuiet_nil ?_)
          refine plan_enter (F := 33) rfl (fun _ _ => by kernel_rfl) (Ext.refl w4).drew (HCNT.out.mono ?_)
          rintro e w5 ⟨r, rfl, hfr, he5⟩
          refine ⟨_, rfl, he5, ?_⟩
          have hE5 : Ext w4 w5 := (Ext.refl w4).drew.trans he5
          obtain ⟨A3, c3, rfl, hc3, hr3⟩ := hfr.sl
          refine plan_enter (F := 32) rfl (fun _ _ => by kernel_rfl) hE5 ((ref26_View g.brs (cnts g) x.name (some ad) A3 c1 c3 w5 (R14.out.ext hE5) hr3 h1).mono ?_)
          rintro e w6 ⟨r, rfl, hfr2, he6⟩
          refine ⟨_, rfl, he6, ?_⟩
          rw [HVE.out]
          rw [HVL.out] at hfr2
          obtain ⟨A5, c5, rfl, hc5, hr5⟩ := hfr2.sl
          iterate 5 ((try go_frame); refine plan_read ?_; go_big_quiet_step (fail); refine wpQuiet_nil ?_)
          refine plan_end ?_
          have hE6 : Ext w4 w6 := hE5.trans he6
          replace k0 := hE6.cell k0
          replace k1 := hE6.cell k1
          replace k2 := hE6.cell k2
          have HE6 := Lib.hid (HE4.out.trans hE6)
          have HV6 := Lib.hid (HV4.out.ext hE6)
          have RF6 := Lib.hid (RF4.out.ext hE6)
          have R16 := Lib.hid (R14.out.ext hE6)
          have HVW := Lib.hid hr5
          have HC5 := Lib.hid hc5
          clear hfr hfr2 he5 he6 hE5 hE6 hr3 hc3 hr5 HCNT y0 y1 y2 HE4 HV4 RF4 R14 q0 hq0 hc5
          obtain ⟨L, hL⟩ : ∃ L, L = (lvMk g x.name).length := ⟨_, rfl⟩
          rw [← hL] at hlen hnX ⊢
          have HL := Lib.hid hL
          clear hL
          have hnL : ¬ (L : Int) < n := by omega
          clear hnX
          obtain ⟨m, rfl⟩ : ∃ m : Nat, n = m := ⟨n.toNat, by omega⟩
          have HSEEN := Lib.hid (ref29_Seen g (lvMk g x.name) m _ A5 c5 w6 HV6.out HVW.out HC5.out HMO.out (by have := HL.out; omega) (by omega))
          rw [← HL.out] at HSEEN
          go_wp2_with fail
          refine HSEEN.out.mono ?_
          rintro e w7 ⟨r, rfl, hown, he7⟩
          have HSC : Hid (∀ ev, ev ∈ evsOf g ((lvMk g x.name).take m) → 0 ≤ cls g ev.chg ∧ cls g ev.chg < 30) := Lib.hid (by
            intro ev hev
            obtain ⟨mk, hmk, rfl⟩ := List.mem_map.1 hev
            exact (HCLS.out mk (List.mem_of_mem_take hmk)).2)
          have HTH := Lib.hid (fold_then HCK.out HXM.out (m := m) (by have := HL.out; omega))
          generalize evsOf g ((lvMk g x.name).take m) = S at *
          obtain ⟨A7, c7, rfl, hc7, hr7⟩ := hown.sl
          replace k0 := he7.cell k0
          replace k1 := he7.cell k1
          replace k2 := he7.cell k2
          have HR7 := Lib.hid hr7
          have HE7 := Lib.hid (HE6.out.trans he7)
          have HV7 := Lib.hid (HV6.out.ext he7)
          have RF7 := Lib.hid (RF6.out.ext he7)
          have R17 := Lib.hid (R16.out.ext he7)
          have hS := hr7.1
          clear hown he7 hc7 hr7 HSEEN HE6 HV6 RF6 R16 HVW
          go_wp2_with (with_reducible refine stop_alloc ?_)
          refine Stop.go ?_
          refine ev_alloc _ zTb ?_
          intro b w8 hb8' he8 hg8
          have HT8 : Hid (Tb w8 b (innF g (S.take 0))) := Lib.hid (by rw [List.take_zero, innF_nil]; exact hb8')
          have HE8 := Lib.hid he8
          have HB := Lib.hid hg8
          clear hb8' he8 hg8
          have y0 : ∀ y : Up w7, y.u.cell? _ = _ := fun y => y.ext.cell k0
          have y1 : ∀ y : Up w7, y.u.cell? _ = _ := fun y => y.ext.cell k1
          have y2 : ∀ y : Up w7, y.u.cell? _ = _ := fun y => y.ext.cell k2
          go_wp2
          go_loopw [15] (fun i wr => ∃ k : Nat, k ≤ S.length ∧ i = .int .i64 (k : Int) ∧ Hid (Tb wr b (innF g (S.take k))) ∧ Hid (Ext w7 wr)) (fun i _ => S.length - (intOf i).toNat)
          case atStart => exact ⟨0, Nat.zero_le _, rfl, HT8.out, HE8.out⟩
          case round =>
            clear HT8 HE8
            obtain ⟨k, hk, rfl, HT, hE⟩ := hrel
            by_cases hlt : k < S.length
            · have hs : S[k]? = some S[k] := List.getElem?_eq_getElem hlt
              obtain ⟨cl0, cl1⟩ := HSC.out S[k] (List.getElem_mem hlt)
              generalize S[k] = ev at hs cl0 cl1
              obtain ⟨adS, e0, q0, q1⟩ := HR7.out.ev hs
              cases e0
              obtain ⟨cN, hcN⟩ : ∃ cN : Nat, cls g ev.chg = cN := ⟨(cls g ev.chg).toNat, by omega⟩
              have HCN := Lib.hid hcN
              have HSN : Hid (innF g (S.take (k + 1)) = upd (innF g (S.take k)) cN (decide (ev.kind ≠ 3))) := Lib.hid (by rw [List.take_add_one, hs]; exact innF_snoc hcN)
              have HCC := Lib.hid (ref29_Class g ev.chg _ wr.drew (HV7.out.ext hE.out.drew))
              rw [hcN] at HCC cl0 cl1
              clear hs hcN cl0
              have z0 : ∀ y : Up w7, y.u.cell? _ = _ := fun y => y.ext.cell q0
              have z1 : ∀ y : Up w7, y.u.cell? _ = _ := fun y => y.ext.cell q1
              go_wp2
              refine wp_region_planE hE.out [(true, 0), (true, 1), (true, 2), (true, 3), (true, 4), (true, 5), (true, 7), (true, 8), (true, 9), (true, 10), (true, 11), (true, 12), (false, 6), (true, 13), (false, 14)] (by kernel_rfl) (by kernel_rfl) ?_
              iterate 12 ((try go_frame); refine plan_read ?_; go_big_quiet_step (fail); refine wpQuiet_nil ?_)
              refine plan_enter (F := 35) rfl (fun _ _ => by kernel_rfl) hE.out.drew (HCC.out.mono ?_)
              rintro e w9 ⟨rfl, he9⟩
              refine ⟨_, rfl, he9, ?_⟩
              iterate 1 ((try go_frame); refine plan_read ?_; go_big_quiet_step (fail); refine wpQuiet_nil ?_)
              have HT9 : Tb w9 b (innF g (S.take k)) := ((Ext.refl wr).drew.trans he9).blk HT.out
              have t0 := HT9.get (c := cN) (by omega)
              have t1 := blk_frozen HT9 cN
              have HT10 := Lib.hid (HT9.set cN (ev.kind != 3))
              have HE9 := Lib.hid (hE.out.drew.trans he9)
              clear HT9 he9 HCC z0 z1 HT
              refine plan_one rfl ?_
              go_wp2_with fail
              have HE10 := Lib.hid ((Turned.setCell w9 b cN (.bool (ev.kind != 3))).ext HE9.out HB.out)
              refine ⟨HE10.out, plan_end ?_⟩
              have HT11 : Hid (Tb (w9.setCell ⟨b, cN, none⟩ (.bool (ev.kind != 3))) b (innF g (S.take (k + 1)))) := Lib.hid (by
                have hkk : (ev.kind != 3) = decide (ev.kind ≠ 3) := by by_cases h : ev.kind = 3 <;> simp [h]
                rw [HSN.out, ← hkk]; exact HT10.out)
              generalize w9.setCell ⟨b, cN, none⟩ (.bool (ev.kind != 3)) = w10 at *
              clear HT10 HE9 HSN t0 t1
              go_wp2
              go_roundw
              case rel => exact ⟨k + 1, by omega, by go_num, HT11.out, HE10.out⟩
              case measure => simp [intOf]; omega
            · have HTE : Hid (Tb wr b (innF g S)) := Lib.hid (by have := HT.out; rw [List.take_of_length_le (by omega)] at this; exact this)
              clear HT y0 y1 y2
              replace k0 := hE.out.cell k0
              replace k1 := hE.out.cell k1
              replace k2 := hE.out.cell k2
              have HEr := Lib.hid (HE7.out.trans hE.out)
              have HVr := Lib.hid (HV7.out.ext hE.out)
              have RFr := Lib.hid (RF7.out.ext hE.out)
              have R1r := Lib.hid (R17.out.ext hE.out)
              have HTN := Lib.hid (missing_Then g fx x.name (m : Nat) _ A c wr HVr.out RFr.out)
              rw [HTH.out.1, HTH.out.2] at HTN
              have HGF : Hid (∀ f, f ∈ fx → (∀ y, y ∈ ordL fx [(x.name, effL g S)] → y.cls = f.cls → y = ⟨x.name, f.cls, f.wt⟩) ∧ cntC (ordL fx [(x.name, effL g S)]) f.cls = (if (wanted f x.name && !innF g S f.cls.toNat) = true then 1 else 0) ∧ 0 ≤ f.cls ∧ f.cls < 30) := Lib.hid (fun f hf => by
                have hfo := fxOk_of HCK.out
                have hc := hfo.cls f hf
                have hi : innF g S f.cls.toNat = inP g S f.cls := by unfold innF; rw [Int.toNat_of_nonneg hc.1]
                refine ⟨gap_fix hfo hf, ?_, hc⟩
                rw [gap_count hfo hf, mem_effL hc, hi])
              have HGL : Hid ((ordL fx [(x.name, effL g S)]).length ≤ fx.length) := Lib.hid (fold_len (fxOk_of HCK.out) _)
              clear hE HE7 HV7 RF7 R17 HTH HSC HR7
              generalize ordL fx [(x.name, effL g S)] = G at *
              go_wp2_with fail
              refine HTN.out.mono ?_
              rintro e w11 ⟨r, rfl, hown, he11⟩
              obtain ⟨A9, c9, rfl, hc9, hr9⟩ := hown.sl
              replace k0 := he11.cell k0
              replace k1 := he11.cell k1
              replace k2 := he11.cell k2
              have HR9 := Lib.hid hr9
              have HE11 := Lib.hid (HEr.out.trans he11)
              have HV11 := Lib.hid (HVr.out.ext he11)
              have RF11 := Lib.hid (RFr.out.ext he11)
              have R111 := Lib.hid (R1r.out.ext he11)
              have HT11 := Lib.hid (he11.blk HTE.out)
              have hGl := hr9.1
              have hGL := HGL.out
              clear hown he11 hc9 hr9 HTN HEr HVr RFr R1r HTE
              go_wp2
              go_loopw [8, 18] (fun r i wr => ∃ k : Nat, k ≤ fx.length ∧ r = .bool false ∧ i = .int .i64 (k : Int) ∧ Hid (Ext w11 wr)) (fun _ i _ => fx.length - (intOf i).toNat)
              case atStart => exact ⟨0, Nat.zero_le _, rfl, rfl, Ext.refl _⟩
              case round =>
                obtain ⟨k, hk, rfl, rfl, hE⟩ := hrel
                by_cases hlt : k < fx.length
                · have hfk : fx[k]? = some fx[k] := List.getElem?_eq_getElem hlt
                  obtain ⟨hgf, hgc, hc0, hc1⟩ := HGF.out fx[k] (List.getElem_mem hlt)
                  generalize fx[k] = f at hfk hgf hgc hc0 hc1
                  obtain ⟨af, B, cB, e0, f0, f1, f2, hcB, qr⟩ := RF11.out.fx hfk
                  cases e0
                  have HF0 := Lib.hid f0
                  have HF1 := Lib.hid f1
                  have HF2 := Lib.hid f2
                  have HQR := Lib.hid qr
                  have HGFk := Lib.hid hgf
                  have HGCk := Lib.hid hgc
                  clear hfk hgf hgc f0 f1 f2 qr
                  go_wp2
                  go_loopw [8, 19, 20] (fun r o j wr => ∃ t : Nat, t ≤ G.length ∧ r = .bool false ∧ j = .int .i64 (t : Int) ∧ o = .int .i64 (cntC (G.take t) f.cls : Nat) ∧ Hid (Ext w11 wr)) (fun _ _ j _ => G.length - (intOf j).toNat)
                  case atStart => exact ⟨0, Nat.zero_le _, rfl, rfl, rfl, hE.out⟩
                  case round =>
                    obtain ⟨t, ht, rfl, rfl, rfl, hEj⟩ := hrel
                    by_cases hlt2 : t < G.length
                    · have hy : G[t]? = some G[t] := List.getElem?_eq_getElem hlt2
                      have hyf := HGFk.out G[t] (List.getElem_mem hlt2)
                      generalize G[t] = y at hy hyf
                      obtain ⟨ay, e0, g0, g1', g2⟩ := HR9.out.gp hy
                      cases e0
                      have HCT := Lib.hid (cntC_take f.cls hy)
                      have hcl := cntC_le (G.take t) f.cls
                      have hcl2 : (G.take t).length ≤ 30 := by rw [List.length_take]; omega
                      have a0 := hEj.out.cell g0
                      have a1 := hEj.out.cell g1'
                      have a2 := hEj.out.cell g2
                      have b0 := hEj.out.cell HF0.out
                      have b1 := hEj.out.cell HF1.out
                      clear hy g0 g1' g2
                      obtain ⟨yb, yc, yw⟩ := y
                      simp only at a0 a1 a2 HCT hyf
                      generalize cntC (G.take t) f.cls = q at *
                      by_cases hyc : yc = f.cls
                      · have hye := hyf hyc
                        simp only [Gp.mk.injEq] at hye
                        obtain ⟨rfl, _, rfl⟩ := hye
                        subst hyc
                        have HC2 : Hid (cntC (G.take (t + 1)) f.cls = q + 1) := Lib.hid (HCT.out.trans (if_pos rfl))
                        clear HCT hyf
                        have y0 : ∀ y : Up wr, y.u.cell? _ = _ := fun y => y.ext.cell a0
                        have y1 : ∀ y : Up wr, y.u.cell? _ = _ := fun y => y.ext.cell a1
                        have y2 : ∀ y : Up wr, y.u.cell? _ = _ := fun y => y.ext.cell a2
                        have y3 : ∀ y : Up wr, y.u.cell? _ = _ := fun y => y.ext.cell b0
                        have y4 : ∀ y : Up wr, y.u.cell? _ = _ := fun y => y.ext.cell b1
                        go_wp2
                        refine wp_quietU (by kernel_rfl) (by kernel_rfl) ?_
                        repeat (go_big_quiet_step (fail))
                        refine wpQuiet_nil ?_
                        rintro wk ⟨u1, hu1⟩
                        have hwk : Ext wr wk := by rw [hu1]; exact u1.ext
                        clear hu1 u1 y0 y1 y2 y3 y4
                        replace a0 := hwk.cell a0
                        replace a1 := hwk.cell a1
                        replace a2 := hwk.cell a2
                        replace b0 := hwk.cell b0
                        replace b1 := hwk.cell b1
                        have HEk := Lib.hid (hEj.out.trans hwk)
                        clear hwk hEj
                        have y0 : ∀ y : Up wk, y.u.cell? _ = _ := fun y => y.ext.cell a0
                        have y1 : ∀ y : Up wk, y.u.cell? _ = _ := fun y => y.ext.cell a1
                        have y2 : ∀ y : Up wk, y.u.cell? _ = _ := fun y => y.ext.cell a2
                        have y3 : ∀ y : Up wk, y.u.cell? _ = _ := fun y => y.ext.cell b0
                        have y4 : ∀ y : Up wk, y.u.cell? _ = _ := fun y => y.ext.cell b1
                        go_wp2
                        refine wp_quietU (by kernel_rfl) (by kernel_rfl) ?_
                        repeat (go_big_quiet_step (fail))
                        refine wpQuiet_nil ?_
                        rintro wl ⟨u1, hu1⟩
                        have hwl : Ext wk wl := by rw [hu1]; exact u1.ext
                        have HEl := Lib.hid (HEk.out.trans hwl)
                        clear hu1 u1 y0 y1 y2 y3 y4 hwl HEk a0 a1 a2 b0 b1
                        go_wp2
                        go_roundw
                        case rel => exact ⟨t + 1, by omega, rfl, by go_num, by rw [HC2.out]; go_num, HEl.out⟩
                        case measure => simp [intOf]; omega
                      · have HC2 : Hid (cntC (G.take (t + 1)) f.cls = q) := Lib.hid (HCT.out.trans (if_neg hyc))
                        have e1 : (yc == f.cls) = false := beq_eq_false_iff_ne.2 hyc
                        clear HCT hyf hyc
                        have y0 : ∀ y : Up wr, y.u.cell? _ = _ := fun y => y.ext.cell a0
                        have y1 : ∀ y : Up wr, y.u.cell? _ = _ := fun y => y.ext.cell a1
                        have y2 : ∀ y : Up wr, y.u.cell? _ = _ := fun y => y.ext.cell a2
                        have y3 : ∀ y : Up wr, y.u.cell? _ = _ := fun y => y.ext.cell b0
                        have y4 : ∀ y : Up wr, y.u.cell? _ = _ := fun y => y.ext.cell b1
                        go_wp2
                        refine wp_quietU (by kernel_rfl) (by kernel_rfl) ?_
                        repeat (go_big_quiet_step (fail))
                        refine wpQuiet_nil ?_
                        rintro wk ⟨u1, hu1⟩
                        have hwk : Ext wr wk := by rw [hu1]; exact u1.ext
                        have HEk := Lib.hid (hEj.out.trans hwk)
                        clear hu1 u1 y0 y1 y2 y3 y4 hwk hEj a0 a1 a2 b0 b1
                        go_wp2
                        go_roundw
                        case rel => exact ⟨t + 1, by omega, rfl, by go_num, by rw [HC2.out], HEk.out⟩
                        case measure => simp [intOf]; omega
                    · have HCG : Hid (cntC (G.take t) f.cls = if (wanted f x.name && !innF g S f.cls.toNat) = true then 1 else 0) := Lib.hid (by rw [List.take_of_length_le (by omega)]; exact HGCk.out)
                      obtain ⟨fN, hfN⟩ : ∃ fN : Nat, f.cls = fN := ⟨f.cls.toNat, by omega⟩
                      have b0 := hEj.out.cell HF0.out
                      have b1 := hEj.out.cell HF1.out
                      have b2 := hEj.out.cell HF2.out
                      have HTj : Tb wr b (innF g S) := hEj.out.blk HT11.out
                      have t0 := HTj.get (c := fN) (by omega)
                      have HWT := Lib.hid (ref34_Wanted f x.name B cB wr (HQR.out.ext hEj.out))
                      have HEjj := Lib.hid hEj.out
                      rw [hfN] at HWT b0 hc0 hc1
                      rw [hfN, Int.toNat_natCast] at HCG
                      clear hEj HTj
                      cases hW : wanted f x.name with
                      | true =>
                        cases hI : innF g S fN with
                        | true =>
                          have HC0 : Hid (cntC (G.take t) f.cls = 0) := Lib.hid (by rw [hfN, HCG.out, hW, hI]; rfl)
                          rw [HC0.out]
                          rw [hI] at t0
                          rw [hW] at HWT
                          clear HCG hW hI
                          go_wp2_with fail
                          refine HWT.out.mono ?_
                          rintro e wm ⟨rfl, hem⟩
                          replace b0 := hem.cell b0
                          replace b1 := hem.cell b1
                          replace b2 := hem.cell b2
                          replace t0 := hem.cell t0
                          have HEm := Lib.hid (HEjj.out.trans hem)
                          clear hem HEjj HWT
                          go_wp2
                          go_roundw
                          case rel => exact ⟨k + 1, by omega, rfl, by go_num, HEm.out⟩
                          case measure => simp [intOf]; omega
                        | false =>
                          have HC0 : Hid (cntC (G.take t) f.cls = 1) := Lib.hid (by rw [hfN, HCG.out, hW, hI]; rfl)
                          rw [HC0.out]
                          rw [hI] at t0
                          rw [hW] at HWT
                          clear HCG hW hI
                          go_wp2_with fail
                          refine HWT.out.mono ?_
                          rintro e wm ⟨rfl, hem⟩
                          replace b0 := hem.cell b0
                          replace b1 := hem.cell b1
                          replace b2 := hem.cell b2
                          replace t0 := hem.cell t0
                          have HEm := Lib.hid (HEjj.out.trans hem)
                          clear hem HEjj HWT
                          go_wp2
                          go_roundw
                          case rel => exact ⟨k + 1, by omega, rfl, by go_num, HEm.out⟩
                          case measure => simp [intOf]; omega
                      | false =>
                        have HC0 : Hid (cntC (G.take t) f.cls = 0) := Lib.hid (by rw [hfN, HCG.out, hW]; rfl)
                        rw [HC0.out]
                        rw [hW] at HWT
                        clear HCG hW
                        go_wp2_with fail
                        refine HWT.out.mono ?_
                        rintro e wm ⟨rfl, hem⟩
                        replace b0 := hem.cell b0
                        replace b1 := hem.cell b1
                        replace b2 := hem.cell b2
                        replace t0 := hem.cell t0
                        have HEm := Lib.hid (HEjj.out.trans hem)
                        clear hem HEjj HWT
                        go_wp2
                        go_roundw
                        case rel => exact ⟨k + 1, by omega, rfl, by go_num, HEm.out⟩
                        case measure => simp [intOf]; omega
                · replace k0 := hE.out.cell k0
                  replace k1 := hE.out.cell k1
                  replace k2 := hE.out.cell k2
                  have HEr := Lib.hid (HE11.out.trans hE.out)
                  have HVr := Lib.hid (HV11.out.ext hE.out)
                  have RFr := Lib.hid (RF11.out.ext hE.out)
                  have HGA := Lib.hid (missing_Gaps g fx _ A c wr HVr.out RFr.out)
                  have HFO := Lib.hid (fold_own HCK.out HXM.out)
                  have HTE2 := Lib.hid (fold_then HCK.out HXM.out (m := L) (by have := HL.out; omega)).1
                  have hal := (gaps_facts HCK.out).1
                  have HBFO : Hid (∀ (k : Nat) (a b : Gp), (gapsL g fx)[k]? = some a → (gapsL g fx)[k + 1]? = some b → cmpG (fun s => idx g.brs s) a b < 0) := Lib.hid (fun k a b ha hb => fold_before HCK.out ha hb)
                  rw [HCK.out] at HGA
                  rw [← HL.out] at HFO
                  clear hE HE11 HV11 RF11 R111 HGF HT11 HR9
                  generalize gapsL g fx = AL at *
                  go_wp2_with fail
                  refine HGA.out.mono ?_
                  rintro e w12 ⟨r, rfl, hown, he12⟩
                  obtain ⟨A12, c12, rfl, hc12, hr12⟩ := hown.sl
                  have HTN2 := Lib.hid (missing_Then g fx x.name (L : Nat) _ A c w12 (HVr.out.ext he12) (RFr.out.ext he12))
                  rw [HTE2.out] at HTN2
                  generalize thenL g fx x.name (L : Int) = EN at *
                  replace k0 := he12.cell k0
                  replace k1 := he12.cell k1
                  replace k2 := he12.cell k2
                  have HR12 := Lib.hid hr12
                  have HE12 := Lib.hid he12
                  clear hown he12 hc12 hr12 HGA
                  go_wp2_with fail
                  refine HTN2.out.mono ?_
                  rintro e w13 ⟨r, rfl, hown2, he13⟩
                  obtain ⟨A13, c13, rfl, hc13, hr13⟩ := hown2.sl
                  replace k0 := he13.cell k0
                  replace k1 := he13.cell k1
                  replace k2 := he13.cell k2
                  have HRA := Lib.hid (HR12.out.ext he13)
                  have HRE := Lib.hid hr13
                  have HE13 := Lib.hid (HEr.out.trans (HE12.out.trans he13))
                  have HV13 := Lib.hid (HVr.out.ext (HE12.out.trans he13))
                  have hal2 := HRA.out.1
                  clear hown2 he13 hc13 hr13 HTN2 HR12 HE12 HEr HVr RFr HTE2
                  go_wp2
                  go_loopw [8, 26, 27] (fun r o t wr => ∃ k : Nat, k ≤ AL.length ∧ r = .bool false ∧ t = .int .i64 (k : Int) ∧ Hid (Own elGp 62 w13.heap.size wr o ((AL.take k).filter fun y => decide (y.br = x.name))) ∧ Hid (Ext w13 wr)) (fun _ _ t _ => AL.length - (intOf t).toNat)
                  case atStart => exact ⟨0, Nat.zero_le _, rfl, rfl, Own.nil _ _ _ _, Ext.refl _⟩
                  case round =>
                    obtain ⟨k, hk, rfl, rfl, HO, hE⟩ := hrel
                    by_cases hlt : k < AL.length
                    · have hy : AL[k]? = some AL[k] := List.getElem?_eq_getElem hlt
                      generalize AL[k] = y at hy
                      obtain ⟨ay, e0, aw0, aw1, aw2⟩ := HRA.out.gp hy
                      cases e0
                      obtain ⟨yb, yc, yw⟩ := y
                      simp only at aw0 aw1 aw2
                      have a0 := hE.out.cell aw0
                      have a1 := hE.out.cell aw1
                      have a2 := hE.out.cell aw2
                      have HA0 := Lib.hid aw0
                      have HA1 := Lib.hid aw1
                      have HA2 := Lib.hid aw2
                      clear aw0 aw1 aw2
                      have HY := Lib.hid hy
                      have hfl : ((AL.take k).filter fun y => decide (y.br = x.name)).length < 1000000 := by
                        have h1 := List.length_filter_le (fun y : Gp => decide (y.br = x.name)) (AL.take k)
                        rw [List.length_take] at h1
                        omega
                      by_cases hyb : yb = x.name
                      · subst hyb
                        have HFT : Hid ((AL.take (k + 1)).filter (fun y => decide (y.br = x.name)) = (AL.take k).filter (fun y => decide (y.br = x.name)) ++ [⟨x.name, yc, yw⟩]) := Lib.hid (by rw [List.take_add_one, HY.out, List.filter_append]; simp)
                        clear hy
                        go_wp2_with (with_reducible refine stop_lit ?_)
                        refine Stop.go ?_
                        refine ev_appGp ⟨x.name, yc, yw⟩ rfl (fun _ => rfl) (fun _ => rfl) HO.out hE.out rfl hfl ?_
                        intro u v5 w5 ho5 he5 hg5 hat5
                        have HOz : Hid (Own elGp 62 w13.heap.size w5 v5 ((AL.take (k + 1)).filter fun y => decide (y.br = x.name))) := Lib.hid (by rw [HFT.out]; exact ho5)
                        have HEz := Lib.hid he5
                        replace a0 := he5.cell HA0.out
                        replace a1 := he5.cell HA1.out
                        replace a2 := he5.cell HA2.out
                        clear ho5 he5 hg5 hat5 HFT HO hE hfl
                        have HVz := Lib.hid (HV13.out.ext HEz.out)
                        have p0 := HEz.out.cell k0
                        have p1 := HEz.out.cell k1
                        have p2 := HEz.out.cell k2
                        go_wp2
                        rcases Nat.eq_zero_or_pos k with hk0 | hkp
                        · have hk1 : decide ((0 : Int) < (k : Int)) = false := decide_eq_false (by omega)
                          have hk3 : ¬ 0 < k := by omega
                          have hk4 : decide (0 < k) = false := decide_eq_false hk3
                          clear hk0
                          have y0 : ∀ y : Up w5, y.u.cell? _ = _ := fun y => y.ext.cell p0
                          have y1 : ∀ y : Up w5, y.u.cell? _ = _ := fun y => y.ext.cell p1
                          have y2 : ∀ y : Up w5, y.u.cell? _ = _ := fun y => y.ext.cell p2
                          refine wp_quietU (by kernel_rfl) (by kernel_rfl) ?_
                          repeat (go_big_quiet_step (fail))
                          refine wpQuiet_nil ?_
                          rintro wq ⟨u1, hu1⟩
                          have hwq : Ext w5 wq := by rw [hu1]; exact u1.ext
                          have HOq := Lib.hid (HOz.out.ext hwq)
                          have HEq := Lib.hid (HEz.out.trans hwq)
                          clear hu1 u1 y0 y1 y2 hwq HOz HEz p0 p1 p2 hk1 hk3 hk4
                          go_wp2
                          go_roundw
                          case rel => exact ⟨k + 1, by omega, rfl, by go_num, HOq.out, HEq.out⟩
                          case measure => simp [intOf]; omega
                        · obtain ⟨s, rfl⟩ : ∃ s, k = s + 1 := ⟨k - 1, by omega⟩
                          have hz : AL[s]? = some AL[s] := List.getElem?_eq_getElem (by omega)
                          have hbf := HBFO.out s AL[s] _ hz HY.out
                          generalize AL[s] = z at hz hbf
                          obtain ⟨az, e0, d0, d1, d2⟩ := (HRA.out.ext HEz.out).gp hz
                          cases e0
                          obtain ⟨zb, zc, zw⟩ := z
                          simp only at d0 d1 d2
                          have HBF : Hid (∀ y : Up w5, _) := Lib.hid fun y : Up w5 => quietU (law34_before g ⟨zb, zc, zw⟩ _ _ y.u (HVz.out.ext y.ext) hbf)
                          have hk1 : decide ((0 : Int) < ((s + 1 : Nat) : Int)) = true := decide_eq_true (by omega)
                          have hk2 : decide ((0 : Int) < (s : Int) + 1) = true := decide_eq_true (by omega)
                          clear hz hbf
                          have y0 : ∀ y : Up w5, y.u.cell? _ = _ := fun y => y.ext.cell p0
                          have y1 : ∀ y : Up w5, y.u.cell? _ = _ := fun y => y.ext.cell p1
                          have y2 : ∀ y : Up w5, y.u.cell? _ = _ := fun y => y.ext.cell p2
                          have y3 : ∀ y : Up w5, y.u.cell? _ = _ := fun y => y.ext.cell d0
                          have y4 : ∀ y : Up w5, y.u.cell? _ = _ := fun y => y.ext.cell d1
                          have y5 : ∀ y : Up w5, y.u.cell? _ = _ := fun y => y.ext.cell d2
                          have y6 : ∀ y : Up w5, y.u.cell? _ = _ := fun y => y.ext.cell a0
                          have y7 : ∀ y : Up w5, y.u.cell? _ = _ := fun y => y.ext.cell a1
                          have y8 : ∀ y : Up w5, y.u.cell? _ = _ := fun y => y.ext.cell a2
                          refine wp_quietU (by kernel_rfl) (by kernel_rfl) ?_
                          repeat (go_big_quiet_step ((first | (go_at_call 37; exact HBF.out _))))
                          refine wpQuiet_nil ?_
                          rintro wq ⟨u1, hu1⟩
                          have hwq : Ext w5 wq := by rw [hu1]; exact u1.ext
                          have HOq := Lib.hid (HOz.out.ext hwq)
                          have HEq := Lib.hid (HEz.out.trans hwq)
                          clear hu1 u1 y0 y1 y2 y3 y4 y5 y6 y7 y8 hwq HOz HEz p0 p1 p2 d0 d1 d2 a0 a1 a2 HBF HVz hk1 hk2
                          go_wp2
                          go_roundw
                          case rel => exact ⟨s + 1 + 1, by omega, rfl, by go_num, HOq.out, HEq.out⟩
                          case measure => simp [intOf]; omega
                      · have e1 := seq_f hyb
                        have HFT : Hid ((AL.take (k + 1)).filter (fun y => decide (y.br = x.name)) = (AL.take k).filter (fun y => decide (y.br = x.name))) := Lib.hid (by rw [List.take_add_one, HY.out, List.filter_append]; simp [hyb])
                        have HOz : Hid (Own elGp 62 w13.heap.size wr _ ((AL.take (k + 1)).filter fun y => decide (y.br = x.name))) := Lib.hid (by rw [HFT.out]; exact HO.out)
                        have HEz := Lib.hid hE.out
                        clear hy hyb HFT HO hE hfl
                        have HVz := Lib.hid (HV13.out.ext HEz.out)
                        have p0 := HEz.out.cell k0
                        have p1 := HEz.out.cell k1
                        have p2 := HEz.out.cell k2
                        go_wp2
                        rcases Nat.eq_zero_or_pos k with hk0 | hkp
                        · have hk1 : decide ((0 : Int) < (k : Int)) = false := decide_eq_false (by omega)
                          have hk3 : ¬ 0 < k := by omega
                          have hk4 : decide (0 < k) = false := decide_eq_false hk3
                          clear hk0
                          have y0 : ∀ y : Up wr, y.u.cell? _ = _ := fun y => y.ext.cell p0
                          have y1 : ∀ y : Up wr, y.u.cell? _ = _ := fun y => y.ext.cell p1
                          have y2 : ∀ y : Up wr, y.u.cell? _ = _ := fun y => y.ext.cell p2
                          refine wp_quietU (by kernel_rfl) (by kernel_rfl) ?_
                          repeat (go_big_quiet_step (fail))
                          refine wpQuiet_nil ?_
                          rintro wq ⟨u1, hu1⟩
                          have hwq : Ext wr wq := by rw [hu1]; exact u1.ext
                          have HOq := Lib.hid (HOz.out.ext hwq)
                          have HEq := Lib.hid (HEz.out.trans hwq)
                          clear hu1 u1 y0 y1 y2 hwq HOz HEz p0 p1 p2 hk1 hk3 hk4
                          go_wp2
                          go_roundw
                          case rel => exact ⟨k + 1, by omega, rfl, by go_num, HOq.out, HEq.out⟩
                          case measure => simp [intOf]; omega
                        · obtain ⟨s, rfl⟩ : ∃ s, k = s + 1 := ⟨k - 1, by omega⟩
                          have hz : AL[s]? = some AL[s] := List.getElem?_eq_getElem (by omega)
                          have hbf := HBFO.out s AL[s] _ hz HY.out
                          generalize AL[s] = z at hz hbf
                          obtain ⟨az, e0, d0, d1, d2⟩ := (HRA.out.ext HEz.out).gp hz
                          cases e0
                          obtain ⟨zb, zc, zw⟩ := z
                          simp only at d0 d1 d2
                          have HBF : Hid (∀ y : Up wr, _) := Lib.hid fun y : Up wr => quietU (law34_before g ⟨zb, zc, zw⟩ _ _ y.u (HVz.out.ext y.ext) hbf)
                          have hk1 : decide ((0 : Int) < ((s + 1 : Nat) : Int)) = true := decide_eq_true (by omega)
                          have hk2 : decide ((0 : Int) < (s : Int) + 1) = true := decide_eq_true (by omega)
                          clear hz hbf
                          have y0 : ∀ y : Up wr, y.u.cell? _ = _ := fun y => y.ext.cell p0
                          have y1 : ∀ y : Up wr, y.u.cell? _ = _ := fun y => y.ext.cell p1
                          have y2 : ∀ y : Up wr, y.u.cell? _ = _ := fun y => y.ext.cell p2
                          have y3 : ∀ y : Up wr, y.u.cell? _ = _ := fun y => y.ext.cell d0
                          have y4 : ∀ y : Up wr, y.u.cell? _ = _ := fun y => y.ext.cell d1
                          have y5 : ∀ y : Up wr, y.u.cell? _ = _ := fun y => y.ext.cell d2
                          have y6 : ∀ y : Up wr, y.u.cell? _ = _ := fun y => y.ext.cell a0
                          have y7 : ∀ y : Up wr, y.u.cell? _ = _ := fun y => y.ext.cell a1
                          have y8 : ∀ y : Up wr, y.u.cell? _ = _ := fun y => y.ext.cell a2
                          refine wp_quietU (by kernel_rfl) (by kernel_rfl) ?_
                          repeat (go_big_quiet_step ((first | (go_at_call 37; exact HBF.out _))))
                          refine wpQuiet_nil ?_
                          rintro wq ⟨u1, hu1⟩
                          have hwq : Ext wr wq := by rw [hu1]; exact u1.ext
                          have HOq := Lib.hid (HOz.out.ext hwq)
                          have HEq := Lib.hid (HEz.out.trans hwq)
                          clear hu1 u1 y0 y1 y2 y3 y4 y5 y6 y7 y8 hwq HOz HEz p0 p1 p2 d0 d1 d2 a0 a1 a2 HBF HVz hk1 hk2
                          go_wp2
                          go_roundw
                          case rel => exact ⟨s + 1 + 1, by omega, rfl, by go_num, HOq.out, HEq.out⟩
                          case measure => simp [intOf]; omega
                    · have HOe : Hid (Own elGp 62 w13.heap.size wr _ EN) := Lib.hid (by have := HO.out; rw [List.take_of_length_le (by omega), HFO.out] at this; exact this)
                      obtain ⟨A14, c14, e14, hc14, hr14⟩ := HOe.out.sl
                      cases e14
                      have HS := Lib.hid (ref34_Same EN EN A14 A13 c14 c13 wr hr14 (HRE.out.ext hE.out))
                      rw [decide_eq_true rfl] at HS
                      have HEe := Lib.hid (HE13.out.trans hE.out)
                      clear HO HOe hE hr14 hc14
                      go_wp2_with fail
                      refine HS.out.mono ?_
                      rintro e w15 ⟨rfl, he15⟩
                      have HE15 := Lib.hid (HEe.out.trans he15)
                      clear HS he15 HEe
                      go_wp2
                      go_ret
                      exact ⟨rfl, HE15.out⟩
    · have e9 : (checkF g fx != 0) = true := bne_iff_ne.2 hck
      clear hck
      generalize checkF g fx = z at *
      go_wp2
      go_ret
      exact ⟨rfl, HE4.out⟩
theorem law_fold (g : Lg) (fx : List Fx) (i n : Int) (v : Value) (A : Option Addr) (c : Nat) (w : World) (hv : LgV w v g) (hf : Rd elFx w A fx) :
    Calls Tryz.prog 6 #[v, .slice A fx.length c, .int .i64 i, .int .i64 n] w fun e w' => e = .returned (.bool true) ∧ Ext w w' := by
  by_cases h0 : n < 0
  · exact law_fold0 g fx i n v A c w hv hf h0
  · by_cases h : ∃ (k : Nat) (x : Br), i = k ∧ g.brs[k]? = some x ∧ ((lvMk g x.name).length : Int) < n
    · obtain ⟨k, x, h1, h2, h3⟩ := h
      refine law_fold1 g fx i n v A c w hv hf (by omega) fun k' x' e1 e2 => ?_
      obtain rfl : k' = k := by omega
      rw [h2] at e2
      cases e2
      exact h3
    · refine law_fold2 g fx i n v A c w hv hf (by omega) fun k x e1 e2 => ?_
      by_cases h4 : ((lvMk g x.name).length : Int) < n
      · exact absurd ⟨k, x, e1, e2, h4⟩ h
      · omega
end Go.Proofs.YtgibdafkidkahaaGreatDoor
