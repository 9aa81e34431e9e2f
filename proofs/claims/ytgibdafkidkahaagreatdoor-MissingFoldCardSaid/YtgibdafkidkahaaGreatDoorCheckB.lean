/- Derived: walks: Check of a table of branches. -/
import Derived.Test.YtgibdafkidkahaaGreatDoorIdx
import Derived.Test.YtgibdafkidkahaaGreatDoorName
import Derived.Outline
set_option linter.unusedVariables false
set_option linter.unusedSimpArgs false
namespace Go.Proofs.YtgibdafkidkahaaGreatDoor
open Go.RowKit

set_option maxHeartbeats 8000000 in
set_option maxRecDepth 100000 in
theorem ref26_Check (l : List Br) (A : Option Addr) (c : Nat) (w : World) (hl : Rd elBr w A l) (hcap : l.length ≤ c) :
    Calls Tryz.prog 110 #[.slice A l.length c] w fun e w' => e = .returned (.int .i64 (checkB l)) ∧ Ext w w' := by
  by_cases h8 : 8 < l.length
  · go_enter Tryz.func110, Tryz.ntmps110
    go_wp2
    go_ret
    exact ⟨ret_int (checkB_many h8).symm, Ext.refl _⟩
  · go_enter Tryz.func110, Tryz.ntmps110
    go_wp2
    go_loop [3] (fun i => ∃ k : Nat, k ≤ l.length ∧ i = .int .i64 k ∧ Hid (∀ (j : Nat) (x : Br), j < k → l[j]? = some x → idx l x.name = j)) (fun i => l.length - (intOf i).toNat)
    case atStart => exact ⟨0, Nat.zero_le _, rfl, fun j x hj => absurd hj (by omega)⟩
    case round =>
      obtain ⟨k, hk, rfl, hn⟩ := hrel
      by_cases hlt : k < l.length
      · have hx : l[k]? = some l[k] := List.getElem?_eq_getElem hlt
        generalize l[k] = x at hx
        obtain ⟨ad, rfl, h0, h1, h2⟩ := hl.br hx
        have HX := Lib.hid hx
        clear hx
        by_cases hi : idx l x.name = k
        · have e1 : (idx l x.name != (k : Int)) = false := by rw [hi]; simp
          have HI := Lib.hid hi
          clear hi
          go_wp2_with (go_at_call 100; refine (ref26_Index l x.name _ c w hl).mono ?_; rintro e w' ⟨rfl, rfl⟩)
          go_round
          case rel =>
            refine ⟨k + 1, by omega, by go_num, fun j y hj hy => ?_⟩
            rcases Nat.lt_succ_iff_lt_or_eq.1 hj with h | rfl
            · exact hn.out j y h hy
            · rw [HX.out] at hy; cases hy; exact HI.out
          case measure => simp [intOf]; omega
        · have e1 : (idx l x.name != (k : Int)) = true := by rw [bne_iff_ne]; exact hi
          have HI := Lib.hid hi
          clear hi
          go_wp2_with (go_at_call 100; refine (ref26_Index l x.name _ c w hl).mono ?_; rintro e w' ⟨rfl, rfl⟩)
          go_ret
          exact ⟨ret_int (checkB_twice h8 HX.out HI.out).symm, Ext.refl _⟩
      · have hU : Uniq l := fun j y hy => hn.out j y (by have := (List.getElem?_eq_some_iff.1 hy).1; omega) hy
        have HU := Lib.hid hU
        clear hU hn
        by_cases hnil : l.length = 0
        · have e1 : ((l.length : Int) == 0) = true := by rw [hnil]; rfl
          have HN := Lib.hid hnil
          clear hnil
          go_wp2
          go_ret
          refine ⟨ret_int ?_, Ext.refl _⟩
          rw [List.eq_nil_of_length_eq_zero HN.out]; rfl
        · have e1 : ((l.length : Int) == 0) = false := by rw [beq_eq_false_iff_ne]; omega
          go_wp2
          clear hlt
          go_loopw [4] (fun i wr => ∃ k : Nat, k ≤ l.length ∧ i = .int .i64 k ∧ Hid (∀ (j : Nat) (x : Br), j < k → l[j]? = some x → badAt l j x = false) ∧ Hid (Ext w wr)) (fun i _ => l.length - (intOf i).toNat)
          case atStart => exact ⟨0, Nat.zero_le _, rfl, fun j x hj => absurd hj (by omega), Ext.refl w⟩
          case round =>
            obtain ⟨k, hk, rfl, hn, hE⟩ := hrel
            have hl' := hl.ext hE.out
            by_cases hlt : k < l.length
            · have hx : l[k]? = some l[k] := List.getElem?_eq_getElem hlt
              generalize l[k] = x at hx
              obtain ⟨ad, rfl, h0, h1, h2⟩ := hl'.br hx
              have HX := Lib.hid hx
              clear hx
              cases hnm : nameOk x.name with
              | false =>
                have HB : Hid (badAt l k x = true) := Lib.hid (by simp [badAt, hnm])
                go_wp2_with (go_at_call 109; refine (ref26_Name _ _).mono ?_; rintro e w' ⟨rfl, rfl⟩)
                go_ret
                exact ⟨ret_int (checkB_bad h8 HU.out HX.out HB.out).symm, hE.out⟩
              | true =>
                by_cases hlo : x.at_ < 0
                · have HB : Hid (badAt l k x = true) := Lib.hid (by simp [badAt, hlo])
                  go_wp2_with (go_at_call 109; refine (ref26_Name _ _).mono ?_; rintro e w' ⟨rfl, rfl⟩)
                  go_ret
                  exact ⟨ret_int (checkB_bad h8 HU.out HX.out HB.out).symm, hE.out⟩
                · by_cases hhi : 320 < x.at_
                  · have HB : Hid (badAt l k x = true) := Lib.hid (by simp [badAt, hhi])
                    go_wp2_with (go_at_call 109; refine (ref26_Name _ _).mono ?_; rintro e w' ⟨rfl, rfl⟩)
                    go_ret
                    exact ⟨ret_int (checkB_bad h8 HU.out HX.out HB.out).symm, hE.out⟩
                  · have hat : ¬ (x.at_ < 0) ∧ ¬ (320 < x.at_) := ⟨hlo, hhi⟩
                    have HAT := Lib.hid hat
                    clear hat
                    have hlo1 : 0 ≤ x.at_ := by omega
                    have hhi1 : x.at_ ≤ 320 := by omega
                    clear hlo hhi
                    by_cases hk0 : k = 0
                    · have e2 : ((k : Int) == 0) = true := by rw [hk0]; rfl
                      have e4 : decide ((0 : Int) < (k : Int)) = false := decide_eq_false (by omega)
                      have e4' : decide (0 < k) = false := decide_eq_false (by omega)
                      have HK0 := Lib.hid hk0
                      clear hk0
                      by_cases hf : x.frm = ByteArray.empty
                      · have e3 := str_nil hf
                        have HF := Lib.hid hf
                        clear hf
                        by_cases ha : x.at_ = 0
                        · have e5 : (x.at_ != 0) = false := by rw [ha]; rfl
                          have HA := Lib.hid ha
                          clear ha
                          have HB : Hid (badAt l k x = false) := Lib.hid (by simp [badAt, hnm, HF.out, HA.out, HK0.out])
                          go_wp2_with (go_at_call 109; refine (ref26_Name _ _).mono ?_; rintro e w' ⟨rfl, rfl⟩)
                          go_quiet (fail)
                          go_wp2
                          go_roundw
                          case rel =>
                            refine ⟨k + 1, by omega, by go_num, fun j y hj hy => ?_, hE.out.drewN _⟩
                            rcases Nat.lt_succ_iff_lt_or_eq.1 hj with h | rfl
                            · exact hn.out j y h hy
                            · rw [HX.out] at hy; cases hy; exact HB.out
                          case measure => simp [intOf]; omega
                        · have e5 : (x.at_ != 0) = true := by rw [bne_iff_ne]; exact ha
                          have HA := Lib.hid ha
                          clear ha
                          have HB : Hid (badAt l k x = true) := Lib.hid (by simp [badAt, HA.out, HK0.out])
                          go_wp2_with (go_at_call 109; refine (ref26_Name _ _).mono ?_; rintro e w' ⟨rfl, rfl⟩)
                          go_quiet (fail)
                          go_wp2
                          go_ret
                          exact ⟨ret_int (checkB_bad h8 HU.out HX.out HB.out).symm, hE.out.drewN _⟩
                      · obtain ⟨e3, e3'⟩ := str_ne hf
                        have HF := Lib.hid hf
                        clear hf
                        have HB : Hid (badAt l k x = true) := Lib.hid (by simp [badAt, HF.out, HK0.out])
                        go_wp2_with (go_at_call 109; refine (ref26_Name _ _).mono ?_; rintro e w' ⟨rfl, rfl⟩)
                        go_quiet (fail)
                        go_wp2
                        go_ret
                        exact ⟨ret_int (checkB_bad h8 HU.out HX.out HB.out).symm, hE.out.drewN _⟩
                    · have e2 : ((k : Int) == 0) = false := by rw [beq_eq_false_iff_ne]; omega
                      have e4 : decide ((0 : Int) < (k : Int)) = true := decide_eq_true (by omega)
                      have e4' : decide (0 < k) = true := decide_eq_true (by omega)
                      have hkc : k ≤ c := by omega
                      have HK0 : Hid (k ≠ 0 ∧ 0 < k) := Lib.hid ⟨hk0, by omega⟩
                      clear hk0
                      by_cases hi : idx (l.take k) x.frm < 0
                      · have HB : Hid (badAt l k x = true) := Lib.hid (by simp [badAt, hi, HK0.out.2])
                        go_wp2_with (go_at_call 109; refine (ref26_Name _ _).mono ?_; rintro e w' ⟨rfl, rfl⟩)
                        go_quiet ((go_at_call 100; exact Calls.quiet_of_same ((ref26_Index_n (l.take k) _ _ _ _ _ ((hl'.ext ((Ext.refl _).drewN _)).take k) (by rw [List.length_take]; omega)).mono fun _ _ h => ⟨h.1, h.2.symm⟩)))
                        go_wp2
                        go_ret
                        exact ⟨ret_int (checkB_bad h8 HU.out HX.out HB.out).symm, hE.out.drewN _⟩
                      · have HB : Hid (badAt l k x = false) := Lib.hid (by simp [badAt, hnm, HAT.out.1, HAT.out.2, hi, HK0.out.1])
                        go_wp2_with (go_at_call 109; refine (ref26_Name _ _).mono ?_; rintro e w' ⟨rfl, rfl⟩)
                        go_quiet ((go_at_call 100; exact Calls.quiet_of_same ((ref26_Index_n (l.take k) _ _ _ _ _ ((hl'.ext ((Ext.refl _).drewN _)).take k) (by rw [List.length_take]; omega)).mono fun _ _ h => ⟨h.1, h.2.symm⟩)))
                        go_wp2
                        go_roundw
                        case rel =>
                          refine ⟨k + 1, by omega, by go_num, fun j y hj hy => ?_, hE.out.drewN _⟩
                          rcases Nat.lt_succ_iff_lt_or_eq.1 hj with h | rfl
                          · exact hn.out j y h hy
                          · rw [HX.out] at hy; cases hy; exact HB.out
                        case measure => simp [intOf]; omega
            · go_wp2
              go_ret
              refine ⟨ret_int (checkB_ok h8 HU.out (fun e => hnil (by rw [e]; rfl)) fun j y hy => hn.out j y (by have := (List.getElem?_eq_some_iff.1 hy).1; omega) hy).symm, hE.out⟩

theorem isName_b {s : Str} {b : Bool} (h : nameOk s = b) (w : World) :
    Calls Tryz.prog 246 #[.string s] w fun e w' => e = .returned (.bool b) ∧ Ext w w' := h ▸ branch_isName s w
set_option maxHeartbeats 8000000 in
set_option maxRecDepth 100000 in
theorem branch_Check (l : List Br) (A : Option Addr) (c : Nat) (w : World) (hl : Rd elBr w A l) (hcap : l.length ≤ c) :
    Calls Tryz.prog 199 #[.slice A l.length c] w fun e w' => e = .returned (.int .i64 (checkB l)) ∧ Ext w w' := by
  by_cases h8 : 8 < l.length
  · go_enter Tryz.func199, Tryz.ntmps199
    go_wp2
    go_ret
    exact ⟨ret_int (checkB_many h8).symm, Ext.refl _⟩
  · go_enter Tryz.func199, Tryz.ntmps199
    go_wp2
    go_loopw [12] (fun i wr => ∃ k : Nat, k ≤ l.length ∧ i = .int .i64 k ∧ Hid (∀ (j : Nat) (x : Br), j < k → l[j]? = some x → idx l x.name = j) ∧ Hid (Ext w wr)) (fun i _ => l.length - (intOf i).toNat)
    case atStart => exact ⟨0, Nat.zero_le _, rfl, fun j x hj => absurd hj (by omega), Ext.refl w⟩
    case round =>
      obtain ⟨k, hk, rfl, hn, hE⟩ := hrel
      have hl' := hl.ext hE.out
      by_cases hlt : k < l.length
      · have hx : l[k]? = some l[k] := List.getElem?_eq_getElem hlt
        generalize l[k] = x at hx
        obtain ⟨ad, rfl, h0, h1, h2⟩ := hl'.br hx
        have HX := Lib.hid hx
        have HL' := Lib.hid hl'
        have hle := (idx_le hx).2
        clear hx hl'
        by_cases hi : idx l x.name = k
        · have e1 : ¬ (idx l x.name < (k : Int)) := by omega
          have HI := Lib.hid hi
          clear hi
          go_wp2_with (first | ((with_reducible refine ev_vari (v := .agg #[.string x.name, .string x.frm, .int .i64 x.at_]) _ zBr ?hd ?hx ?hs ?h1 ?_); (case hd => exact fun _ _ => rfl); (case hx => exact fun _ _ => rfl); (case hs => rfl); (case h1 => exact one3 rfl rfl rfl); intro g w1 hb he _; have k0 := (blk_cell hb 0).trans rfl))
          refine (branch_index_n l x.name _ _ c w1 (HL'.out.ext he) rfl).mono ?_
          rintro e w2 ⟨rfl, he2⟩
          have HE := Lib.hid (hE.out.trans (he.trans he2))
          clear he he2 hb k0 h0 h1 h2
          go_wp2
          go_roundw
          case rel =>
            refine ⟨k + 1, by omega, by go_num, fun j y hj hy => ?_, HE.out⟩
            rcases Nat.lt_succ_iff_lt_or_eq.1 hj with h | rfl
            · exact hn.out j y h hy
            · rw [HX.out] at hy; cases hy; exact HI.out
          case measure => simp [intOf]; omega
        · have e1 : idx l x.name < (k : Int) := by omega
          have HI := Lib.hid hi
          clear hi
          go_wp2_with (first | ((with_reducible refine ev_vari (v := .agg #[.string x.name, .string x.frm, .int .i64 x.at_]) _ zBr ?hd ?hx ?hs ?h1 ?_); (case hd => exact fun _ _ => rfl); (case hx => exact fun _ _ => rfl); (case hs => rfl); (case h1 => exact one3 rfl rfl rfl); intro g w1 hb he _; have k0 := (blk_cell hb 0).trans rfl))
          refine (branch_index_n l x.name _ _ c w1 (HL'.out.ext he) rfl).mono ?_
          rintro e w2 ⟨rfl, he2⟩
          have HE := Lib.hid (hE.out.trans (he.trans he2))
          clear he he2 hb k0 h0 h1 h2
          go_wp2
          go_ret
          exact ⟨ret_int (checkB_twice h8 HX.out HI.out).symm, HE.out⟩
      · have hU : Uniq l := fun j y hy => hn.out j y (by have := (List.getElem?_eq_some_iff.1 hy).1; omega) hy
        have HU := Lib.hid hU
        clear hU hn
        by_cases hnil : l.length = 0
        · have e1 : ((l.length : Int) == 0) = true := by rw [hnil]; rfl
          have HN := Lib.hid hnil
          clear hnil
          go_wp2
          go_ret
          refine ⟨ret_int ?_, hE.out⟩
          rw [List.eq_nil_of_length_eq_zero HN.out]; rfl
        · have e1 : ((l.length : Int) == 0) = false := by rw [beq_eq_false_iff_ne]; omega
          have hlt0 : 0 < l.length := by omega
          have hx0 : l[0]? = some l[0] := List.getElem?_eq_getElem hlt0
          generalize l[0] = x0 at hx0
          obtain ⟨ad, rfl, h0, h1, h2⟩ := hl'.br hx0
          simp only [Nat.zero_mul, add_zero'] at h0 h1 h2
          have HX0 := Lib.hid hx0
          have HL' := Lib.hid hl'
          clear hx0 hl'
          have hne : l ≠ [] := fun e => hnil (by rw [e]; rfl)
          have HNE := Lib.hid hne
          clear hne
          by_cases hf : x0.frm = ByteArray.empty
          · have e3 := str_nil hf
            have HF := Lib.hid hf
            clear hf
            by_cases ha : x0.at_ = 0
            · have e4 : (x0.at_ != 0) = false := by rw [ha]; rfl
              have HA := Lib.hid ha
              clear ha
              go_wp2
              clear h0 h1 h2 e3 e4 hlt
              go_loopw [43] (fun i wr => ∃ k : Nat, k ≤ l.length ∧ i = .int .i64 k ∧ Hid (∀ (j : Nat) (x : Br), j < k → l[j]? = some x → badAt l j x = false) ∧ Hid (Ext w wr)) (fun i _ => l.length - (intOf i).toNat)
              case atStart => exact ⟨0, Nat.zero_le _, rfl, fun j x hj => absurd hj (by omega), hE.out⟩
              case round =>
                clear HL'
                obtain ⟨k, hk, rfl, hn, hE⟩ := hrel
                have hl' := hl.ext hE.out
                by_cases hlt : k < l.length
                · have hx : l[k]? = some l[k] := List.getElem?_eq_getElem hlt
                  generalize l[k] = x at hx
                  obtain ⟨ad', e0, h0, h1, h2⟩ := hl'.br hx
                  cases e0
                  have HX := Lib.hid hx
                  have HL' := Lib.hid hl'
                  have hbase : Hid (badAt l k x = (!nameOk x.name || decide (x.at_ < 0) || decide (320 < x.at_) || (decide (0 < k) && decide (idx (l.take k) x.frm < 0)))) := by
                    refine Lib.hid ?_
                    unfold badAt
                    by_cases hk0 : k = 0
                    · subst hk0
                      rw [HX0.out] at hx
                      cases hx
                      simp [HF.out, HA.out]
                    · simp [hk0]
                  clear hx hl'
                  cases hnm : nameOk x.name with
                  | false =>
                    have HB : Hid (badAt l k x = true) := Lib.hid (by simp [hbase.out, hnm])
                    go_wp2_with (first | ((with_reducible refine ev_vari (v := .agg #[.string x.name, .string x.frm, .int .i64 x.at_]) _ zBr ?hd ?hx ?hs ?h1 ?_); (case hd => exact fun _ _ => rfl); (case hx => exact fun _ _ => rfl); (case hs => rfl); (case h1 => exact one3 rfl rfl rfl); intro g w1 hb he _))
                    have q0 : ∀ y : Up w1, y.u.cell? ⟨g, 0, none⟩ = some (.string x.name) := fun y => y.ext.cell (blk_cell hb 0)
                    have q1 : ∀ y : Up w1, y.u.cell? ⟨g, 1, none⟩ = some (.string x.frm) := fun y => y.ext.cell (blk_cell hb 1)
                    have q2 : ∀ y : Up w1, y.u.cell? ⟨g, 2, none⟩ = some (.int .i64 x.at_) := fun y => y.ext.cell (blk_cell hb 2)
                    try go_frame
                    refine wp_quietU (by kernel_rfl) (by kernel_rfl) ?_
                    repeat (go_big_quiet_step ((first | (go_at_call 246; exact quietU ((isName_b hnm) _)) | (go_at_call 194; exact quietU (branch_index_n (l.take k) _ _ _ _ _ ((HL'.out.ext (he.trans (Up.ext _))).take k) (by rw [List.length_take]; omega))))))
                    refine wpQuiet_nil ?_
                    rintro _ ⟨y, rfl⟩
                    have HE := Lib.hid (hE.out.trans (he.trans y.ext))
                    clear q0 q1 q2 he hb h0 h1 h2
                    go_wp2
                    go_ret
                    exact ⟨ret_int (checkB_bad h8 HU.out HX.out HB.out).symm, HE.out⟩
                  | true =>
                    by_cases hlo : x.at_ < 0
                    · have b1 : decide (x.at_ < 0) = true := decide_eq_true hlo
                      have HB : Hid (badAt l k x = true) := Lib.hid (by simp [hbase.out, hlo])
                      go_wp2_with (first | ((with_reducible refine ev_vari (v := .agg #[.string x.name, .string x.frm, .int .i64 x.at_]) _ zBr ?hd ?hx ?hs ?h1 ?_); (case hd => exact fun _ _ => rfl); (case hx => exact fun _ _ => rfl); (case hs => rfl); (case h1 => exact one3 rfl rfl rfl); intro g w1 hb he _))
                      have q0 : ∀ y : Up w1, y.u.cell? ⟨g, 0, none⟩ = some (.string x.name) := fun y => y.ext.cell (blk_cell hb 0)
                      have q1 : ∀ y : Up w1, y.u.cell? ⟨g, 1, none⟩ = some (.string x.frm) := fun y => y.ext.cell (blk_cell hb 1)
                      have q2 : ∀ y : Up w1, y.u.cell? ⟨g, 2, none⟩ = some (.int .i64 x.at_) := fun y => y.ext.cell (blk_cell hb 2)
                      try go_frame
                      refine wp_quietU (by kernel_rfl) (by kernel_rfl) ?_
                      repeat (go_big_quiet_step ((first | (go_at_call 246; exact quietU ((isName_b hnm) _)) | (go_at_call 194; exact quietU (branch_index_n (l.take k) _ _ _ _ _ ((HL'.out.ext (he.trans (Up.ext _))).take k) (by rw [List.length_take]; omega))))))
                      refine wpQuiet_nil ?_
                      rintro _ ⟨y, rfl⟩
                      have HE := Lib.hid (hE.out.trans (he.trans y.ext))
                      clear q0 q1 q2 he hb h0 h1 h2
                      go_wp2
                      go_ret
                      exact ⟨ret_int (checkB_bad h8 HU.out HX.out HB.out).symm, HE.out⟩
                    · have b1 : decide (x.at_ < 0) = false := decide_eq_false hlo
                      by_cases hhi : 320 < x.at_
                      · have b2 : decide (320 < x.at_) = true := decide_eq_true hhi
                        have HB : Hid (badAt l k x = true) := Lib.hid (by simp [hbase.out, hhi])
                        go_wp2_with (first | ((with_reducible refine ev_vari (v := .agg #[.string x.name, .string x.frm, .int .i64 x.at_]) _ zBr ?hd ?hx ?hs ?h1 ?_); (case hd => exact fun _ _ => rfl); (case hx => exact fun _ _ => rfl); (case hs => rfl); (case h1 => exact one3 rfl rfl rfl); intro g w1 hb he _))
                        have q0 : ∀ y : Up w1, y.u.cell? ⟨g, 0, none⟩ = some (.string x.name) := fun y => y.ext.cell (blk_cell hb 0)
                        have q1 : ∀ y : Up w1, y.u.cell? ⟨g, 1, none⟩ = some (.string x.frm) := fun y => y.ext.cell (blk_cell hb 1)
                        have q2 : ∀ y : Up w1, y.u.cell? ⟨g, 2, none⟩ = some (.int .i64 x.at_) := fun y => y.ext.cell (blk_cell hb 2)
                        try go_frame
                        refine wp_quietU (by kernel_rfl) (by kernel_rfl) ?_
                        repeat (go_big_quiet_step ((first | (go_at_call 246; exact quietU ((isName_b hnm) _)) | (go_at_call 194; exact quietU (branch_index_n (l.take k) _ _ _ _ _ ((HL'.out.ext (he.trans (Up.ext _))).take k) (by rw [List.length_take]; omega))))))
                        refine wpQuiet_nil ?_
                        rintro _ ⟨y, rfl⟩
                        have HE := Lib.hid (hE.out.trans (he.trans y.ext))
                        clear q0 q1 q2 he hb h0 h1 h2
                        go_wp2
                        go_ret
                        exact ⟨ret_int (checkB_bad h8 HU.out HX.out HB.out).symm, HE.out⟩
                      · have b2 : decide (320 < x.at_) = false := decide_eq_false hhi
                        by_cases hk0 : 0 < k
                        · have e4 : decide ((0 : Int) < (k : Int)) = true := decide_eq_true (by omega)
                          have e4' : decide (0 < k) = true := decide_eq_true (by omega)
                          have hkc : k ≤ c := by omega
                          by_cases hi : idx (l.take k) x.frm < 0
                          · have b3 : decide (idx (l.take k) x.frm < 0) = true := decide_eq_true hi
                            have HB : Hid (badAt l k x = true) := Lib.hid (by simp [hbase.out, hi, hk0])
                            go_wp2_with (first | ((with_reducible refine ev_vari (v := .agg #[.string x.name, .string x.frm, .int .i64 x.at_]) _ zBr ?hd ?hx ?hs ?h1 ?_); (case hd => exact fun _ _ => rfl); (case hx => exact fun _ _ => rfl); (case hs => rfl); (case h1 => exact one3 rfl rfl rfl); intro g w1 hb he _))
                            have q0 : ∀ y : Up w1, y.u.cell? ⟨g, 0, none⟩ = some (.string x.name) := fun y => y.ext.cell (blk_cell hb 0)
                            have q1 : ∀ y : Up w1, y.u.cell? ⟨g, 1, none⟩ = some (.string x.frm) := fun y => y.ext.cell (blk_cell hb 1)
                            have q2 : ∀ y : Up w1, y.u.cell? ⟨g, 2, none⟩ = some (.int .i64 x.at_) := fun y => y.ext.cell (blk_cell hb 2)
                            try go_frame
                            refine wp_quietU (by kernel_rfl) (by kernel_rfl) ?_
                            repeat (go_big_quiet_step ((first | (go_at_call 246; exact quietU ((isName_b hnm) _)) | (go_at_call 194; exact quietU (branch_index_n (l.take k) _ _ _ _ _ ((HL'.out.ext (he.trans (Up.ext _))).take k) (by rw [List.length_take]; omega))))))
                            refine wpQuiet_nil ?_
                            rintro _ ⟨y, rfl⟩
                            have HE := Lib.hid (hE.out.trans (he.trans y.ext))
                            clear q0 q1 q2 he hb h0 h1 h2
                            go_wp2
                            go_ret
                            exact ⟨ret_int (checkB_bad h8 HU.out HX.out HB.out).symm, HE.out⟩
                          · have b3 : decide (idx (l.take k) x.frm < 0) = false := decide_eq_false hi
                            have HB : Hid (badAt l k x = false) := Lib.hid (by simp [hbase.out, hnm, b1, b2, b3])
                            go_wp2_with (first | ((with_reducible refine ev_vari (v := .agg #[.string x.name, .string x.frm, .int .i64 x.at_]) _ zBr ?hd ?hx ?hs ?h1 ?_); (case hd => exact fun _ _ => rfl); (case hx => exact fun _ _ => rfl); (case hs => rfl); (case h1 => exact one3 rfl rfl rfl); intro g w1 hb he _))
                            have q0 : ∀ y : Up w1, y.u.cell? ⟨g, 0, none⟩ = some (.string x.name) := fun y => y.ext.cell (blk_cell hb 0)
                            have q1 : ∀ y : Up w1, y.u.cell? ⟨g, 1, none⟩ = some (.string x.frm) := fun y => y.ext.cell (blk_cell hb 1)
                            have q2 : ∀ y : Up w1, y.u.cell? ⟨g, 2, none⟩ = some (.int .i64 x.at_) := fun y => y.ext.cell (blk_cell hb 2)
                            try go_frame
                            refine wp_quietU (by kernel_rfl) (by kernel_rfl) ?_
                            repeat (go_big_quiet_step ((first | (go_at_call 246; exact quietU ((isName_b hnm) _)) | (go_at_call 194; exact quietU (branch_index_n (l.take k) _ _ _ _ _ ((HL'.out.ext (he.trans (Up.ext _))).take k) (by rw [List.length_take]; omega))))))
                            refine wpQuiet_nil ?_
                            rintro _ ⟨y, rfl⟩
                            have HE := Lib.hid (hE.out.trans (he.trans y.ext))
                            clear q0 q1 q2 he hb h0 h1 h2
                            go_wp2
                            go_roundw
                            case rel =>
                              refine ⟨k + 1, by omega, by go_num, fun j y hj hy => ?_, HE.out⟩
                              rcases Nat.lt_succ_iff_lt_or_eq.1 hj with h | rfl
                              · exact hn.out j y h hy
                              · rw [HX.out] at hy; cases hy; exact HB.out
                            case measure => simp [intOf]; omega
                        · have e4 : decide ((0 : Int) < (k : Int)) = false := decide_eq_false (by omega)
                          have e4' : decide (0 < k) = false := decide_eq_false (by omega)
                          have HB : Hid (badAt l k x = false) := Lib.hid (by simp [hbase.out, hnm, b1, b2, hk0])
                          go_wp2_with (first | ((with_reducible refine ev_vari (v := .agg #[.string x.name, .string x.frm, .int .i64 x.at_]) _ zBr ?hd ?hx ?hs ?h1 ?_); (case hd => exact fun _ _ => rfl); (case hx => exact fun _ _ => rfl); (case hs => rfl); (case h1 => exact one3 rfl rfl rfl); intro g w1 hb he _))
                          have q0 : ∀ y : Up w1, y.u.cell? ⟨g, 0, none⟩ = some (.string x.name) := fun y => y.ext.cell (blk_cell hb 0)
                          have q1 : ∀ y : Up w1, y.u.cell? ⟨g, 1, none⟩ = some (.string x.frm) := fun y => y.ext.cell (blk_cell hb 1)
                          have q2 : ∀ y : Up w1, y.u.cell? ⟨g, 2, none⟩ = some (.int .i64 x.at_) := fun y => y.ext.cell (blk_cell hb 2)
                          try go_frame
                          refine wp_quietU (by kernel_rfl) (by kernel_rfl) ?_
                          repeat (go_big_quiet_step ((first | (go_at_call 246; exact quietU ((isName_b hnm) _)) | (go_at_call 194; exact quietU (branch_index_n (l.take k) _ _ _ _ _ ((HL'.out.ext (he.trans (Up.ext _))).take k) (by rw [List.length_take]; omega))))))
                          refine wpQuiet_nil ?_
                          rintro _ ⟨y, rfl⟩
                          have HE := Lib.hid (hE.out.trans (he.trans y.ext))
                          clear q0 q1 q2 he hb h0 h1 h2
                          go_wp2
                          go_roundw
                          case rel =>
                            refine ⟨k + 1, by omega, by go_num, fun j y hj hy => ?_, HE.out⟩
                            rcases Nat.lt_succ_iff_lt_or_eq.1 hj with h | rfl
                            · exact hn.out j y h hy
                            · rw [HX.out] at hy; cases hy; exact HB.out
                          case measure => simp [intOf]; omega
                · go_wp2
                  go_ret
                  refine ⟨ret_int (checkB_ok h8 HU.out HNE.out fun j y hy => hn.out j y (by have := (List.getElem?_eq_some_iff.1 hy).1; omega) hy).symm, hE.out⟩
            · have e4 : (x0.at_ != 0) = true := by rw [bne_iff_ne]; exact ha
              have HA := Lib.hid ha
              clear ha
              go_wp2
              go_ret
              exact ⟨ret_int (checkB_bad h8 HU.out HX0.out (by simp [badAt, HA.out])).symm, hE.out⟩
          · obtain ⟨e3, e3'⟩ := str_ne hf
            have HF := Lib.hid hf
            clear hf
            go_wp2
            go_ret
            exact ⟨ret_int (checkB_bad h8 HU.out HX0.out (by simp [badAt, HF.out])).symm, hE.out⟩

theorem checkB_one (s : Str) : (checkB [⟨s, ⟨#[]⟩, 0⟩] == 0) = nameOk s := by
  have hu : Uniq [⟨s, ⟨#[]⟩, 0⟩] := by
    intro i x hx
    match i, hx with
    | 0, hx => simp at hx; subst hx; exact idx_found (k := 0) rfl (fun j y hj => absurd hj (by omega)) rfl
  have he : (⟨#[]⟩ : ByteArray) = ByteArray.empty := rfl
  cases h : nameOk s with
  | true =>
    rw [checkB_ok (by simp) hu (by simp) ?_]
    · rfl
    · intro i x hx
      match i, hx with
      | 0, hx => simp at hx; subst hx; simp [badAt, h, he]
  | false => rw [checkB_bad (by simp) hu (i := 0) rfl (by simp [badAt, h])]; rfl

theorem ledger_isName (s : Str) (w : World) : Calls Tryz.prog 198 #[.string s] w fun e w' => e = .returned (.bool (nameOk s)) ∧ Ext w w' := by
  go_enter Tryz.func198, Tryz.ntmps198
  go_wp2_with fail
  refine (branch_Check [⟨s, ⟨#[]⟩, 0⟩] _ _ _ (Rd.blk (ok := fun _ => True) (cs := [.string s, .string ⟨#[]⟩, .int .i64 0]) (css := [[.string s, .string ⟨#[]⟩, .int .i64 0]]) (blk_new w _) rfl (by simp) (.cons rfl .nil)) (Nat.le_refl _)).mono ?_
  rintro e w2 ⟨rfl, he⟩
  have hc := checkB_one s
  have HE := Lib.hid (((Ext.refl w).alloc _).trans he)
  clear he
  go_wp2
  go_ret
  exact ⟨rfl, HE.out⟩
end Go.Proofs.YtgibdafkidkahaaGreatDoor
