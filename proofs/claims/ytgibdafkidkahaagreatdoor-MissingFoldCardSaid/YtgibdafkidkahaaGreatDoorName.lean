/- Derived: walks: names. -/
import Derived.Test.YtgibdafkidkahaaGreatDoorBase
import Derived.Outline
set_option linter.unusedVariables false
set_option linter.unusedSimpArgs false
namespace Go.Proofs.YtgibdafkidkahaaGreatDoor
open Go.RowKit

theorem okByte_cases {n : Int} : (okByte n = true ∧ (n = 45 ∨ (97 ≤ n ∧ n ≤ 122) ∨ (48 ≤ n ∧ n ≤ 57))) ∨ (okByte n = false ∧ n ≠ 45 ∧ (n < 97 ∨ 122 < n) ∧ (n < 48 ∨ 57 < n)) := by
  unfold okByte
  by_cases h : n = 45 ∨ (97 ≤ n ∧ n ≤ 122) ∨ (48 ≤ n ∧ n ≤ 57)
  · left; refine ⟨?_, h⟩; simp; omega
  · right; refine ⟨?_, by omega⟩; simp; omega

theorem nameOk_f {s : Str} (h : ¬ (1 ≤ s.size ∧ s.size ≤ 40 ∧ 97 ≤ byteAt s 0 ∧ byteAt s 0 ≤ 122)) : nameOk s = false := by
  rw [Bool.eq_false_iff]
  intro hn
  have := (nameOk_iff s).1 hn
  exact h ⟨this.1, this.2.1, this.2.2.1, this.2.2.2.1⟩

set_option maxHeartbeats 1000000 in
theorem ref26_Name_no (s : Str) (w : World) (h0 : ¬ (1 ≤ s.size ∧ s.size ≤ 40 ∧ 97 ≤ byteAt s 0 ∧ byteAt s 0 ≤ 122)) :
    Calls Tryz.prog 109 #[.string s] w fun e w' => e = .returned (.bool (nameOk s)) ∧ w = w' := by
  have hN := Lib.hid (nameOk_f h0)
  have H0 := Lib.hid h0
  clear h0
  by_cases h1 : s.size < 1
  · go_enter Tryz.func109, Tryz.ntmps109
    go_wp2
    go_ret
    exact ⟨ret_bool hN.out.symm, rfl⟩
  · have h1' : 0 < s.size := by omega
    by_cases h2 : 40 < s.size
    · go_enter Tryz.func109, Tryz.ntmps109
      go_wp2
      go_ret
      exact ⟨ret_bool hN.out.symm, rfl⟩
    · have hb := byteAt_eq h1'
      by_cases h3 : ((s[0]'h1').toNat : Int) < 97
      · clear hb
        go_enter Tryz.func109, Tryz.ntmps109
        go_wp2
        go_ret
        exact ⟨ret_bool hN.out.symm, rfl⟩
      · have h4 : 122 < ((s[0]'h1').toNat : Int) := by
          have := H0.out
          rw [← hb] at this
          omega
        clear hb
        go_enter Tryz.func109, Tryz.ntmps109
        go_wp2
        go_ret
        exact ⟨ret_bool hN.out.symm, rfl⟩

set_option maxHeartbeats 1000000 in
theorem ref26_Name (s : Str) (w : World) :
    Calls Tryz.prog 109 #[.string s] w fun e w' => e = .returned (.bool (nameOk s)) ∧ w = w' := by
  by_cases h0 : 1 ≤ s.size ∧ s.size ≤ 40 ∧ 97 ≤ byteAt s 0 ∧ byteAt s 0 ≤ 122
  · have H0 := Lib.hid h0
    obtain ⟨h1, h2, h3, h4⟩ := h0
    have h1' : 0 < s.size := h1
    rw [← byteAt_eq h1'] at h3 h4
    go_enter Tryz.func109, Tryz.ntmps109
    go_wp2
    go_loop [3] (fun i => ∃ k : Nat, k ≤ s.size ∧ i = .int .i64 k ∧ Hid (∀ j, j < k → okByte (byteAt s j) = true)) (fun i => s.size - (intOf i).toNat)
    case atStart => exact ⟨0, Nat.zero_le _, rfl, fun j hj => absurd hj (by omega)⟩
    case round =>
      obtain ⟨k, hk, rfl, hn⟩ := hrel
      clear h3 h4
      by_cases hlt : k < s.size
      · have hb := byteAt_eq hlt
        rcases okByte_cases (n := byteAt s k) with ⟨ho, hc⟩ | ⟨ho, hc1, hc2, hc3⟩
        · have HO := Lib.hid ho
          rw [← hb] at hc
          clear hb ho
          rcases hc with hc | ⟨hc1, hc2⟩ | ⟨hc1, hc2⟩
          · have e1 : (((s[k]'hlt).toNat : Int) != 45) = false := by rw [hc]; rfl
            have HC := Lib.hid hc
            clear hc
            go_wp2
            go_round
            case rel =>
              refine ⟨k + 1, by omega, by go_num, fun j hj => ?_⟩
              rcases Nat.lt_succ_iff_lt_or_eq.1 hj with h | rfl
              · exact hn.out j h
              · exact HO.out
            case measure => simp [intOf]; omega
          · have e1 : (((s[k]'hlt).toNat : Int) != 45) = true := by rw [bne_iff_ne]; omega
            go_wp2
            go_round
            case rel =>
              refine ⟨k + 1, by omega, by go_num, fun j hj => ?_⟩
              rcases Nat.lt_succ_iff_lt_or_eq.1 hj with h | rfl
              · exact hn.out j h
              · exact HO.out
            case measure => simp [intOf]; omega
          · have e1 : (((s[k]'hlt).toNat : Int) != 45) = true := by rw [bne_iff_ne]; omega
            go_wp2
            go_round
            case rel =>
              refine ⟨k + 1, by omega, by go_num, fun j hj => ?_⟩
              rcases Nat.lt_succ_iff_lt_or_eq.1 hj with h | rfl
              · exact hn.out j h
              · exact HO.out
            case measure => simp [intOf]; omega
        · have HO := Lib.hid ho
          rw [← hb] at hc1 hc2 hc3
          clear hb ho
          have e1 : (((s[k]'hlt).toNat : Int) != 45) = true := by rw [bne_iff_ne]; exact hc1
          have hF : nameOk s = false := by
            rw [Bool.eq_false_iff]
            intro h
            have := ((nameOk_iff s).1 h).2.2.2.2 k hlt
            rw [HO.out] at this
            cases this
          have HF := Lib.hid hF
          clear hF hc1
          rcases hc2 with hc2 | hc2 <;> rcases hc3 with hc3 | hc3 <;> first
            | (exfalso; omega)
            | (go_wp2; go_ret; exact ⟨ret_bool HF.out.symm, rfl⟩)
      · go_wp2
        go_ret
        refine ⟨ret_bool ((nameOk_iff s).2 ⟨H0.out.1, H0.out.2.1, H0.out.2.2.1, H0.out.2.2.2, fun j hj => hn.out j ?_⟩).symm, rfl⟩
        omega
  · exact ref26_Name_no s w h0

theorem decode_high (s : Str) (k : Nat) (h : k < s.size) (ha : 128 ≤ (s[k]'h).toNat) : 128 ≤ (Utf8.decode s k).1 := by
  have e : s.get! (k + 0) = s[k]'h := by
    show s.get! k = _
    simp [ByteArray.get!, getElem!_pos, h]
    rfl
  unfold Utf8.decode
  simp only [e]
  rw [if_neg (by omega)]
  repeat' split
  all_goals simp_all [Utf8.runeError]
  all_goals omega

theorem branch_isName_no (s : Str) (w : World) (h0 : ¬ (1 ≤ s.size ∧ s.size ≤ 40 ∧ 97 ≤ byteAt s 0 ∧ byteAt s 0 ≤ 122)) :
    Calls Tryz.prog 246 #[.string s] w fun e w' => e = .returned (.bool (nameOk s)) ∧ Ext w w' := by
  have hN := Lib.hid (nameOk_f h0)
  have H0 := Lib.hid h0
  clear h0
  by_cases h1 : s.size = 0
  · have h2 : ((s.size : Int) == 0) = true := by rw [h1]; rfl
    have H1 := Lib.hid h1
    clear h1
    go_enter Tryz.func246, Tryz.ntmps246
    go_wp2
    go_ret
    exact ⟨ret_bool hN.out.symm, Ext.refl _⟩
  · have h1' : 0 < s.size := by omega
    have h5 : ((s.size : Int) == 0) = false := by rw [beq_eq_false_iff_ne]; omega
    clear h1
    by_cases h2 : 40 < s.size
    · go_enter Tryz.func246, Tryz.ntmps246
      go_wp2
      go_ret
      exact ⟨ret_bool hN.out.symm, Ext.refl _⟩
    · have hb := byteAt_eq h1'
      by_cases h3 : ((s[0]'h1').toNat : Int) < 97
      · clear hb
        go_enter Tryz.func246, Tryz.ntmps246
        go_wp2
        go_ret
        exact ⟨ret_bool hN.out.symm, Ext.refl _⟩
      · have h4 : 122 < ((s[0]'h1').toNat : Int) := by
          have := H0.out
          rw [← hb] at this
          omega
        clear hb
        go_enter Tryz.func246, Tryz.ntmps246
        go_wp2
        go_ret
        exact ⟨ret_bool hN.out.symm, Ext.refl _⟩

set_option maxHeartbeats 2000000 in
theorem branch_isName (s : Str) (w : World) :
    Calls Tryz.prog 246 #[.string s] w fun e w' => e = .returned (.bool (nameOk s)) ∧ Ext w w' := by
  by_cases h0 : 1 ≤ s.size ∧ s.size ≤ 40 ∧ 97 ≤ byteAt s 0 ∧ byteAt s 0 ≤ 122
  · have H0 := Lib.hid h0
    obtain ⟨h1, h2, h3, h4⟩ := h0
    have h1' : 0 < s.size := h1
    have h5 : ((s.size : Int) == 0) = false := by rw [beq_eq_false_iff_ne]; omega
    rw [← byteAt_eq h1'] at h3 h4
    go_enter Tryz.func246, Tryz.ntmps246
    go_wp2
    clear h3 h4
    go_loopg [4] s.size (fun n _ wr => ∃ k : Nat, k + n = s.size ∧ wr = w.iter s k ∧ Hid (∀ j, j < k → okByte (byteAt s j) = true))
    case atStart => exact ⟨0, by omega, rfl, fun j hj => absurd hj (by omega)⟩
    case round =>
      obtain ⟨k, hk, rfl, hn⟩ := hrel
      have HK := Lib.hid hk
      by_cases hlt : k < s.size
      · clear hk
        have hb := byteAt_eq hlt
        by_cases ha : (s[k]'hlt).toNat < 128
        · have hnx := fun ty => run_next_ascii (P := Tryz.prog) w s k ty hlt ha
          rcases okByte_cases (n := byteAt s k) with ⟨ho, hc⟩ | ⟨ho, hc1, hc2, hc3⟩
          · have HO := Lib.hid ho
            rw [← hb] at hc
            clear hb ho
            generalize (s[k]'hlt).toNat = m at hnx hc ha
            obtain ⟨n, hgk⟩ : ∃ n, gk = n + 1 := ⟨gk - 1, by have := HK.out; omega⟩
            have HG := Lib.hid hgk
            clear hgk
            rcases hc with hc | ⟨hc1, hc2⟩ | ⟨hc1, hc2⟩
            · have e1 : ((m : Int) != 45) = false := by rw [hc]; rfl
              have e2 : (m : Int) < 48 := by omega
              have HC := Lib.hid hc
              clear hc
              go_wp2
              go_roundg n
              case measure => have := HG.out; omega
              case rel =>
                refine ⟨k + 1, by have := HK.out; have := HG.out; omega, rfl, fun j hj => ?_⟩
                rcases Nat.lt_succ_iff_lt_or_eq.1 hj with h | rfl
                · exact hn.out j h
                · exact HO.out
            · have e1 : ((m : Int) != 45) = true := by rw [bne_iff_ne]; omega
              go_wp2
              go_roundg n
              case measure => have := HG.out; omega
              case rel =>
                refine ⟨k + 1, by have := HK.out; have := HG.out; omega, rfl, fun j hj => ?_⟩
                rcases Nat.lt_succ_iff_lt_or_eq.1 hj with h | rfl
                · exact hn.out j h
                · exact HO.out
            · have e1 : ((m : Int) != 45) = true := by rw [bne_iff_ne]; omega
              go_wp2
              go_roundg n
              case measure => have := HG.out; omega
              case rel =>
                refine ⟨k + 1, by have := HK.out; have := HG.out; omega, rfl, fun j hj => ?_⟩
                rcases Nat.lt_succ_iff_lt_or_eq.1 hj with h | rfl
                · exact hn.out j h
                · exact HO.out
          · have HO := Lib.hid ho
            rw [← hb] at hc1 hc2 hc3
            clear hb ho
            have hF : nameOk s = false := by
              rw [Bool.eq_false_iff]
              intro h
              have := ((nameOk_iff s).1 h).2.2.2.2 k hlt
              rw [HO.out] at this
              cases this
            have HF := Lib.hid hF
            generalize (s[k]'hlt).toNat = m at hnx hc1 hc2 hc3 ha
            have e1 : ((m : Int) != 45) = true := by rw [bne_iff_ne]; exact hc1
            clear hF hc1
            rcases hc2 with hc2 | hc2 <;> rcases hc3 with hc3 | hc3 <;> first
              | (exfalso; omega)
              | (go_wp2; go_ret; exact ⟨ret_bool HF.out.symm, (Ext.refl w).alloc _⟩)
        · have hd := decode_high s k hlt (by omega)
          have hnx := fun ty => run_next_any (P := Tryz.prog) w s k ty hlt
          have hF : nameOk s = false := by
            rw [Bool.eq_false_iff]
            intro h
            have h2 := ((nameOk_iff s).1 h).2.2.2.2 k hlt
            rw [← hb] at h2
            rcases okByte_cases (n := ((s[k]'hlt).toNat : Int)) with ⟨_, h3⟩ | ⟨h3, _⟩
            · omega
            · rw [h3] at h2; cases h2
          have HF := Lib.hid hF
          clear hF hb ha
          generalize Utf8.decode s k = dk at hnx hd
          obtain ⟨m, wd⟩ := dk
          simp only at hd hnx
          have e1 : ((m : Int) != 45) = true := by rw [bne_iff_ne]; omega
          have e2 : 122 < (m : Int) := by omega
          have e3 : 57 < (m : Int) := by omega
          clear hd
          go_wp2
          go_ret
          exact ⟨ret_bool HF.out.symm, (Ext.refl w).alloc _⟩
      · have hnx := fun ty => run_next_end (P := Tryz.prog) w s k ty hlt
        go_wp2
        go_ret
        refine ⟨ret_bool ((nameOk_iff s).2 ⟨H0.out.1, H0.out.2.1, H0.out.2.2.1, H0.out.2.2.2, fun j hj => hn.out j ?_⟩).symm, (Ext.refl w).alloc _⟩
        have := HK.out
        omega
  · exact branch_isName_no s w h0
end Go.Proofs.YtgibdafkidkahaaGreatDoor
