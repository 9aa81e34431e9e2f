/- Derived: the law MissingScores: its walk. -/
import Derived.Test.YtgibdafkidkahaaGreatDoorScoM
import Derived.Test.YtgibdafkidkahaaGreatDoorGreat
set_option linter.unusedVariables false
set_option linter.unusedSimpArgs false
namespace Go.Proofs.YtgibdafkidkahaaGreatDoor
open Go.RowKit

theorem ba_empty_list : ByteArray.empty.toList = [] := by simp
theorem nil_list {s : Str} : s.toList = [] ↔ s = ByteArray.empty := ⟨fun h => ba_ext (h.trans ba_empty_list.symm), fun h => by rw [h]; exact ba_empty_list⟩
set_option maxRecDepth 100000 in
set_option maxHeartbeats 4000000 in
theorem law_scores (g : Lg) (fx : List Fx) (v : Value) (A : Option Addr) (c : Nat) (w : World) (hv : LgV w v g) (hf : Rd elFx w A fx) :
    Calls Tryz.prog 5 #[v, .slice A fx.length c] w fun e w' => e = .returned (.bool true) ∧ Ext w w' := by
  obtain ⟨A0, c0, A1, c1, A2, c2, rfl, h0, h1, h2, r0, r1, r2⟩ := hv.ex
  go_enter Tryz.func5, Tryz.ntmps5
  go_wp2_with (with_reducible refine stop_box ?_)
  refine Stop.go ?_
  refine ev_box3 (c0 := .slice A0 g.known.length c0) (c1 := .slice A1 g.brs.length c1) (c2 := .slice A2 g.evs.length c2) rfl ?_
  intro g1 w1 hb_g1 he hg_g1 k0 k1 k2
  have HE := Lib.hid he
  have HV := Lib.hid (hv.ext he)
  have RF := Lib.hid (hf.ext he)
  have R1 := Lib.hid (r1.ext he)
  clear he r0 r1 r2 hv hf hb_g1 hg_g1
  go_wp2_with fail
  refine (law34_alive w1).mono ?_
  rintro e w2 ⟨rfl, he2⟩
  replace k0 := he2.cell k0
  replace k1 := he2.cell k1
  replace k2 := he2.cell k2
  have HE2 := Lib.hid (HE.out.trans he2)
  have HV2 := Lib.hid (HV.out.ext he2)
  have RF2 := Lib.hid (RF.out.ext he2)
  have R12 := Lib.hid (R1.out.ext he2)
  clear he2 HE HV RF R1
  go_wp2_with fail
  refine (ref34_Great g fx _ A c w2 HV2.out RF2.out).mono ?_
  rintro e w3 ⟨b, rfl, he3⟩
  replace k0 := he3.cell k0
  replace k1 := he3.cell k1
  replace k2 := he3.cell k2
  have HE3 := Lib.hid (HE2.out.trans he3)
  have HV3 := Lib.hid (HV2.out.ext he3)
  have RF3 := Lib.hid (RF2.out.ext he3)
  have R13 := Lib.hid (R12.out.ext he3)
  clear he3 HE2 HV2 RF2 R12
  cases b with
  | true =>
    go_wp2
    go_ret
    exact ⟨rfl, HE3.out⟩
  | false =>
    go_wp2_with fail
    refine (ref34_Check g fx _ A c w3 HV3.out RF3.out).mono ?_
    rintro e w4 ⟨rfl, he4⟩
    replace k0 := he4.cell k0
    replace k1 := he4.cell k1
    replace k2 := he4.cell k2
    have HE4 := Lib.hid (HE3.out.trans he4)
    have HV4 := Lib.hid (HV3.out.ext he4)
    have RF4 := Lib.hid (RF3.out.ext he4)
    have R14 := Lib.hid (R13.out.ext he4)
    clear he4 HE3 HV3 RF3 R13
    by_cases hck : checkF g fx = 0
    · have SF := Lib.hid (score_facts hck)
      have SO : Hid (∀ b, b ∈ g.brs → _) := Lib.hid fun b (hb : b ∈ g.brs) => score_ok hck hb
      have HGW := Lib.hid (missing_Gaps g fx _ A c w4 HV4.out RF4.out)
      have HWW : Hid (∀ y, Ext w4 y → _) := Lib.hid fun y (hy : Ext w4 y) => missing_Worst g fx _ A c y (HV4.out.ext hy) (RF4.out.ext hy)
      rw [hck] at HGW ⊢
      clear hck
      generalize worstV g fx = V at *
      generalize worstE g fx = E at *
      obtain ⟨l, hl⟩ : ∃ l, l = gapsL g fx := ⟨_, rfl⟩
      rw [← hl] at SF SO HGW
      have HLG := Lib.hid hl
      clear hl
      go_wp2_with fail
      refine HGW.out.mono ?_
      rintro e w5 ⟨r5, rfl, ho5, he5⟩
      obtain ⟨A5, c5, rfl, _, hr5⟩ := ho5.sl
      have HW5 := Lib.hid (HWW.out w5 he5)
      replace k0 := he5.cell k0
      replace k1 := he5.cell k1
      replace k2 := he5.cell k2
      have HR5 := Lib.hid hr5
      have HEo := Lib.hid he5
      clear ho5 hr5 he5 HWW HGW
      go_wp2_with fail
      refine HW5.out.mono ?_
      rintro e w6 ⟨rfl, he6⟩
      replace k0 := he6.cell k0
      replace k1 := he6.cell k1
      replace k2 := he6.cell k2
      have HR6 := Lib.hid (HR5.out.ext he6)
      have HE46 := Lib.hid (HEo.out.trans he6)
      have HE6 := Lib.hid (HE4.out.trans HE46.out)
      have HV6 := Lib.hid (HV4.out.ext HE46.out)
      have RF6 := Lib.hid (RF4.out.ext HE46.out)
      have R16 := Lib.hid (R14.out.ext HE46.out)
      obtain ⟨V1, V2⟩ := V
      clear he6 HEo HR5 HW5 HE4 HV4 RF4 R14 HE46
      have hl240 := SF.out.len
      have hb8 := SF.out.br8
      by_cases hl : l = []
      · have hE := SF.out.e.1 hl
        have hL : ¬ 0 < l.length := by rw [hl]; exact Nat.lt_irrefl _
        subst hE
        clear hl
        go_wp2
        go_loopw [11, 14] (fun a i wr => ∃ k : Nat, k ≤ l.length ∧ i = .int .i64 (k : Int) ∧ a = .int .i64 (allW (l.take k)) ∧ Hid (w6 = wr)) (fun _ i _ => l.length - (intOf i).toNat)
        case atStart => exact ⟨0, Nat.zero_le _, rfl, rfl, by first | exact rfl | exact trivial⟩
        case round =>
          obtain ⟨k, hk, rfl, rfl, hE⟩ := hrel
          have hE' := hE.out
          subst hE'
          by_cases hlt : k < l.length
          · exfalso; omega
          · have HTA : Hid (allW (l.take k) = allW l) := Lib.hid (by rw [List.take_of_length_le (by omega)])
            rw [HTA.out]
            clear hE HTA
            go_wp2
            go_loopw [4, 12, 13, 15] (fun r s f i wr => ∃ k : Nat, k ≤ g.brs.length ∧ r = .bool false ∧ i = .int .i64 (k : Int) ∧ s = .int .i64 (sumB l (g.brs.take k)) ∧ f = .string (firstF l V2 (g.brs.take k)) ∧ Hid (Ext w6 wr)) (fun _ _ _ i _ => g.brs.length - (intOf i).toNat)
            case atStart => exact ⟨0, Nat.zero_le _, rfl, rfl, rfl, rfl, Ext.refl _⟩
            case round =>
              obtain ⟨k, hk, rfl, rfl, rfl, rfl, hE⟩ := hrel
              have p0 := hE.out.cell k0
              have p1 := hE.out.cell k1
              have p2 := hE.out.cell k2
              by_cases hlt : k < g.brs.length
              · have hx : g.brs[k]? = some g.brs[k] := List.getElem?_eq_getElem hlt
                have hmost := SF.out.most g.brs[k] (List.getElem_mem hlt)
                have HSO := Lib.hid (SO.out g.brs[k] (List.getElem_mem hlt))
                generalize g.brs[k] = x at hx hmost HSO
                obtain ⟨ad, e0, q0, q1, q2⟩ := (R16.out.ext hE.out).br hx
                cases e0
                have HT1 := Lib.hid (sumB_take l hx)
                have HT2 := Lib.hid (firstF_take l V2 hx)
                obtain ⟨s1, s2⟩ := sumB_bound (l := l) SF.out.gp hl240 (g.brs.take k)
                have htk : (g.brs.take k).length ≤ 8 := by rw [List.length_take]; omega
                have s3 : sumB l (g.brs.take k) ≤ 17280 := by omega
                obtain ⟨t1, t2⟩ := sumW_bound SF.out.gp x.name
                have t3 : sumW l x.name ≤ 2160 := by omega
                have HSC := Lib.hid (missing_Score g fx x.name _ A c wr.drew (HV6.out.ext hE.out.drew) (RF6.out.ext hE.out.drew))
                rw [HSO.out.1, HSO.out.2] at HSC
                clear hx q1 q2 htk s2 t2 HSO
                generalize sumB l (g.brs.take k) = s at *
                generalize firstF l V2 (g.brs.take k) = f at *
                generalize sumW l x.name = n at *
                have y0 : ∀ y : Up wr, y.u.cell? _ = _ := fun y => y.ext.cell p0
                have y1 : ∀ y : Up wr, y.u.cell? _ = _ := fun y => y.ext.cell p1
                have y2 : ∀ y : Up wr, y.u.cell? _ = _ := fun y => y.ext.cell p2
                have y3 : ∀ y : Up wr, y.u.cell? _ = _ := fun y => y.ext.cell q0
                go_wp2
                refine wp_region_planU [(true, 0), (true, 1), (true, 2), (true, 3), (true, 4), (true, 5), (true, 6), (true, 7), (false, 8), (true, 9), (true, 10), (true, 11), (true, 12), (true, 13)] (by kernel_rfl) (by kernel_rfl) ?_
                iterate 8 ((try go_frame); refine plan_read ?_; go_big_quiet_step (fail); refine wpQuiet_nil ?_)
                refine plan_enter (F := 31) rfl (fun _ _ => by kernel_rfl) (Ext.refl wr).drew (HSC.out.mono ?_)
                rintro e w7 ⟨rfl, he7⟩
                refine ⟨_, rfl, he7, ?_⟩
                iterate 5 ((try go_frame); refine plan_read ?_; go_big_quiet_step (fail); refine wpQuiet_nil ?_)
                refine plan_end ?_
                have hE7 : Ext wr w7 := (Ext.refl wr).drew.trans he7
                have HE7 := Lib.hid (hE.out.trans hE7)
                have b1 := hE7.cell p1
                have b0 := hE7.cell q0
                clear he7 hE7 hE HSC y0 y1 y2 y3 p0 p1 p2 q0
                have en1 : ¬ n < 0 := by omega
                have en2 : ¬ V2 < n := by omega
                by_cases hn : n = V2
                · have en3 : (n == V2) = true := by rw [hn]; exact beq_self_eq_true _
                  by_cases hf : f.toList.isEmpty = true
                  · have HF : Hid (firstF l V2 (g.brs.take (k + 1)) = x.name) := Lib.hid (HT2.out.trans (if_pos ⟨hn, nil_list.1 (List.isEmpty_iff.1 hf)⟩))
                    clear HT2 hn
                    go_wp2
                    go_roundw
                    case rel => exact ⟨k + 1, by omega, rfl, by go_num, by rw [HT1.out], by rw [HF.out], HE7.out⟩
                    case measure => simp [intOf]; omega
                  · have HF : Hid (firstF l V2 (g.brs.take (k + 1)) = f) := Lib.hid (HT2.out.trans (if_neg fun h => hf (List.isEmpty_iff.2 (nil_list.2 h.2))))
                    have hf2 : f.toList.isEmpty = false := by simpa using hf
                    clear hf
                    clear HT2 hn
                    go_wp2
                    go_roundw
                    case rel => exact ⟨k + 1, by omega, rfl, by go_num, by rw [HT1.out], by rw [HF.out], HE7.out⟩
                    case measure => simp [intOf]; omega
                · have en3 : (n == V2) = false := beq_eq_false_iff_ne.2 hn
                  have HF : Hid (firstF l V2 (g.brs.take (k + 1)) = f) := Lib.hid (HT2.out.trans (if_neg fun h => hn h.1))
                  clear HT2 hn
                  go_wp2
                  go_roundw
                  case rel => exact ⟨k + 1, by omega, rfl, by go_num, by rw [HT1.out], by rw [HF.out], HE7.out⟩
                  case measure => simp [intOf]; omega
              · have HS : Hid (sumB l (g.brs.take k) = allW l) := Lib.hid (by rw [List.take_of_length_le (by omega)]; exact SF.out.all)
                have HF : Hid (firstF l V2 (g.brs.take k) = firstF l V2 g.brs) := Lib.hid (by rw [List.take_of_length_le (by omega)])
                have HEe : Hid (Ext w wr) := Lib.hid (HE6.out.trans hE.out)
                rw [HS.out, HF.out]

                clear HS HF hE
                generalize allW l = s at *
                generalize firstF l V2 g.brs = f at *
                go_wp2
                go_ret
                exact ⟨rfl, HEe.out⟩
      · have hE := SF.out.e.2 hl
        have hL : 0 < l.length := by rcases Nat.eq_zero_or_pos l.length with h | h; exact absurd (List.length_eq_zero_iff.1 h) hl; exact h
        have HFI := Lib.hid (SF.out.first hl)
        subst hE
        clear hl
        go_wp2
        clear hL
        go_loopw [11, 14] (fun a i wr => ∃ k : Nat, k ≤ l.length ∧ i = .int .i64 (k : Int) ∧ a = .int .i64 (allW (l.take k)) ∧ Hid (w6 = wr)) (fun _ i _ => l.length - (intOf i).toNat)
        case atStart => exact ⟨0, Nat.zero_le _, rfl, rfl, by first | exact rfl | exact trivial⟩
        case round =>
          obtain ⟨k, hk, rfl, rfl, hE⟩ := hrel
          have hE' := hE.out
          subst hE'
          by_cases hlt : k < l.length
          · have hx : l[k]? = some l[k] := List.getElem?_eq_getElem hlt
            obtain ⟨b1, b2, _, _⟩ := SF.out.gp l[k] (List.getElem_mem hlt)
            generalize l[k] = x at hx b1 b2
            have HT := Lib.hid (allW_take hx)
            obtain ⟨s1, s2⟩ := allW_bound (l := l.take k) (fun y hy => SF.out.gp y (List.mem_of_mem_take hy))
            have htk : (l.take k).length ≤ 240 := by rw [List.length_take]; omega
            have s3 : allW (l.take k) ≤ 2160 := by omega
            obtain ⟨ad, rfl, q0, q1, q2⟩ := HR6.out.gp hx
            obtain ⟨xb, xc, xw⟩ := x
            simp only at q0 q1 q2 b1 b2
            clear hx htk s2
            generalize allW (l.take k) = s at *
            go_wp2
            go_roundw
            case rel => exact ⟨k + 1, by omega, by go_num, by rw [HT.out], by first | exact rfl | exact trivial⟩
            case measure => simp [intOf]; omega
          · have HTA : Hid (allW (l.take k) = allW l) := Lib.hid (by rw [List.take_of_length_le (by omega)])
            rw [HTA.out]
            clear hE HTA
            go_wp2
            go_loopw [4, 12, 13, 15] (fun r s f i wr => ∃ k : Nat, k ≤ g.brs.length ∧ r = .bool false ∧ i = .int .i64 (k : Int) ∧ s = .int .i64 (sumB l (g.brs.take k)) ∧ f = .string (firstF l V2 (g.brs.take k)) ∧ Hid (Ext w6 wr)) (fun _ _ _ i _ => g.brs.length - (intOf i).toNat)
            case atStart => exact ⟨0, Nat.zero_le _, rfl, rfl, rfl, rfl, Ext.refl _⟩
            case round =>
              obtain ⟨k, hk, rfl, rfl, rfl, rfl, hE⟩ := hrel
              have p0 := hE.out.cell k0
              have p1 := hE.out.cell k1
              have p2 := hE.out.cell k2
              by_cases hlt : k < g.brs.length
              · have hx : g.brs[k]? = some g.brs[k] := List.getElem?_eq_getElem hlt
                have hmost := SF.out.most g.brs[k] (List.getElem_mem hlt)
                have HSO := Lib.hid (SO.out g.brs[k] (List.getElem_mem hlt))
                generalize g.brs[k] = x at hx hmost HSO
                obtain ⟨ad, e0, q0, q1, q2⟩ := (R16.out.ext hE.out).br hx
                cases e0
                have HT1 := Lib.hid (sumB_take l hx)
                have HT2 := Lib.hid (firstF_take l V2 hx)
                obtain ⟨s1, s2⟩ := sumB_bound (l := l) SF.out.gp hl240 (g.brs.take k)
                have htk : (g.brs.take k).length ≤ 8 := by rw [List.length_take]; omega
                have s3 : sumB l (g.brs.take k) ≤ 17280 := by omega
                obtain ⟨t1, t2⟩ := sumW_bound SF.out.gp x.name
                have t3 : sumW l x.name ≤ 2160 := by omega
                have HSC := Lib.hid (missing_Score g fx x.name _ A c wr.drew (HV6.out.ext hE.out.drew) (RF6.out.ext hE.out.drew))
                rw [HSO.out.1, HSO.out.2] at HSC
                clear hx q1 q2 htk s2 t2 HSO
                generalize sumB l (g.brs.take k) = s at *
                generalize firstF l V2 (g.brs.take k) = f at *
                generalize sumW l x.name = n at *
                have y0 : ∀ y : Up wr, y.u.cell? _ = _ := fun y => y.ext.cell p0
                have y1 : ∀ y : Up wr, y.u.cell? _ = _ := fun y => y.ext.cell p1
                have y2 : ∀ y : Up wr, y.u.cell? _ = _ := fun y => y.ext.cell p2
                have y3 : ∀ y : Up wr, y.u.cell? _ = _ := fun y => y.ext.cell q0
                go_wp2
                refine wp_region_planU [(true, 0), (true, 1), (true, 2), (true, 3), (true, 4), (true, 5), (true, 6), (true, 7), (false, 8), (true, 9), (true, 10), (true, 11), (true, 12), (true, 13)] (by kernel_rfl) (by kernel_rfl) ?_
                iterate 8 ((try go_frame); refine plan_read ?_; go_big_quiet_step (fail); refine wpQuiet_nil ?_)
                refine plan_enter (F := 31) rfl (fun _ _ => by kernel_rfl) (Ext.refl wr).drew (HSC.out.mono ?_)
                rintro e w7 ⟨rfl, he7⟩
                refine ⟨_, rfl, he7, ?_⟩
                iterate 5 ((try go_frame); refine plan_read ?_; go_big_quiet_step (fail); refine wpQuiet_nil ?_)
                refine plan_end ?_
                have hE7 : Ext wr w7 := (Ext.refl wr).drew.trans he7
                have HE7 := Lib.hid (hE.out.trans hE7)
                have b1 := hE7.cell p1
                have b0 := hE7.cell q0
                clear he7 hE7 hE HSC y0 y1 y2 y3 p0 p1 p2 q0
                have en1 : ¬ n < 0 := by omega
                have en2 : ¬ V2 < n := by omega
                by_cases hn : n = V2
                · have en3 : (n == V2) = true := by rw [hn]; exact beq_self_eq_true _
                  by_cases hf : f.toList.isEmpty = true
                  · have HF : Hid (firstF l V2 (g.brs.take (k + 1)) = x.name) := Lib.hid (HT2.out.trans (if_pos ⟨hn, nil_list.1 (List.isEmpty_iff.1 hf)⟩))
                    clear HT2 hn
                    go_wp2
                    go_roundw
                    case rel => exact ⟨k + 1, by omega, rfl, by go_num, by rw [HT1.out], by rw [HF.out], HE7.out⟩
                    case measure => simp [intOf]; omega
                  · have HF : Hid (firstF l V2 (g.brs.take (k + 1)) = f) := Lib.hid (HT2.out.trans (if_neg fun h => hf (List.isEmpty_iff.2 (nil_list.2 h.2))))
                    have hf2 : f.toList.isEmpty = false := by simpa using hf
                    clear hf
                    clear HT2 hn
                    go_wp2
                    go_roundw
                    case rel => exact ⟨k + 1, by omega, rfl, by go_num, by rw [HT1.out], by rw [HF.out], HE7.out⟩
                    case measure => simp [intOf]; omega
                · have en3 : (n == V2) = false := beq_eq_false_iff_ne.2 hn
                  have HF : Hid (firstF l V2 (g.brs.take (k + 1)) = f) := Lib.hid (HT2.out.trans (if_neg fun h => hn h.1))
                  clear HT2 hn
                  go_wp2
                  go_roundw
                  case rel => exact ⟨k + 1, by omega, rfl, by go_num, by rw [HT1.out], by rw [HF.out], HE7.out⟩
                  case measure => simp [intOf]; omega
              · have HS : Hid (sumB l (g.brs.take k) = allW l) := Lib.hid (by rw [List.take_of_length_le (by omega)]; exact SF.out.all)
                have HF : Hid (firstF l V2 (g.brs.take k) = firstF l V2 g.brs) := Lib.hid (by rw [List.take_of_length_le (by omega)])
                have HEe : Hid (Ext w wr) := Lib.hid (HE6.out.trans hE.out)
                rw [HS.out, HF.out]
                rw [HFI.out]
                clear HS HF hE
                generalize allW l = s at *
                generalize firstF l V2 g.brs = f at *
                go_wp2
                go_ret
                exact ⟨rfl, HEe.out⟩
    · have e9 : (checkF g fx != 0) = true := bne_iff_ne.2 hck
      clear hck
      generalize checkF g fx = z at *
      go_wp2
      go_ret
      exact ⟨rfl, HE4.out⟩
end Go.Proofs.YtgibdafkidkahaaGreatDoor
