/- Derived: walks: the reference of layer 29, its small functions. -/
import Derived.Test.YtgibdafkidkahaaGreatDoorLedM
set_option linter.unusedVariables false
set_option linter.unusedSimpArgs false
namespace Go.Proofs.YtgibdafkidkahaaGreatDoor
open Go.RowKit

theorem ref29_Class (g : Lg) (s : Str) (v : Value) (w : World) (hv : LgV w v g) :
    Calls Tryz.prog 35 #[v, .string s] w fun e w' => e = .returned (.int .i64 (cls g s)) ∧ Ext w w' := by
  obtain ⟨A0, c0, A1, c1, A2, c2, rfl, h0, h1, h2, r0, r1, r2⟩ := hv.ex
  have hm := r0.1
  go_enter Tryz.func35, Tryz.ntmps35
  go_wp2_with (with_reducible refine stop_box ?_)
  refine Stop.go ?_
  refine ev_box3 (c0 := .slice A0 g.known.length c0) (c1 := .slice A1 g.brs.length c1) (c2 := .slice A2 g.evs.length c2) rfl ?_
  intro g1 w1 hb_g1 he hg_g1 k0 k1 k2
  have HE := Lib.hid he
  have R0 := Lib.hid (r0.ext he)
  clear he r0 r1 r2 hv hb_g1 hg_g1
  go_wp2
  go_loop [5] (fun i => ∃ k : Nat, k ≤ g.known.length ∧ i = .int .i64 k ∧ Hid (∀ (j : Nat) y, j < k → g.known[j]? = some y → y.chg ≠ s)) (fun i => g.known.length - (intOf i).toNat)
  case atStart => exact ⟨0, Nat.zero_le _, rfl, fun j y hj => absurd hj (by omega)⟩
  case round =>
    obtain ⟨k, hk, rfl, hn⟩ := hrel
    by_cases hlt : k < g.known.length
    · have hx : g.known[k]? = some g.known[k] := List.getElem?_eq_getElem hlt
      generalize g.known[k] = x at hx
      obtain ⟨ad, rfl, q0, q1⟩ := R0.out.kn hx
      have HX := Lib.hid hx
      clear hx
      by_cases he : x.chg = s
      · have e1 := seq_t he
        have HR : Hid (cls g s = x.cls) := Lib.hid (cls_found HX.out hn.out he)
        clear he
        go_wp2
        go_ret
        exact ⟨ret_int HR.out.symm, HE.out⟩
      · have e1 := seq_f he
        have HN := Lib.hid he
        clear he
        go_wp2
        go_round
        case rel =>
          refine ⟨k + 1, by omega, by go_num, fun j y hj hy => ?_⟩
          rcases Nat.lt_succ_iff_lt_or_eq.1 hj with h | rfl
          · exact hn.out j y h hy
          · rw [HX.out] at hy; cases hy; exact HN.out
        case measure => simp [intOf]; omega
    · have HR : Hid (cls g s = -1) := Lib.hid (cls_none fun j y hy => hn.out j y (by have := (List.getElem?_eq_some_iff.1 hy).1; omega) hy)
      go_wp2
      go_ret
      exact ⟨ret_int HR.out.symm, HE.out⟩

set_option maxRecDepth 100000 in
theorem ref29_last (g : Lg) (s : List Ev) (k : Int) (v : Value) (A : Option Addr) (c : Nat) (w : World) (hv : LgV w v g) (hs : Rd elEv w A s) (hc : s.length ≤ c) :
    Calls Tryz.prog 183 #[v, .slice A s.length c, .int .i64 k] w fun e w' => e = .returned (.int .i64 (lastP g s k)) ∧ Ext w w' := by
  obtain ⟨A0, c0, A1, c1, A2, c2, rfl, h0, h1, h2, r0, r1, r2⟩ := hv.ex
  have hm := hs.1
  go_enter Tryz.func183, Tryz.ntmps183
  go_wp2_with (with_reducible refine stop_box ?_)
  refine Stop.go ?_
  refine ev_box3 (c0 := .slice A0 g.known.length c0) (c1 := .slice A1 g.brs.length c1) (c2 := .slice A2 g.evs.length c2) rfl ?_
  intro g1 w1 hb_g1 he hg_g1 k0 k1 k2
  have HE := Lib.hid he
  have HV := Lib.hid (hv.ext he)
  clear he r0 r1 r2 hv hb_g1 hg_g1
  go_wp2
  go_loopw [7, 8] (fun p i wr => ∃ j : Nat, j ≤ s.length ∧ i = .int .i64 (j : Int) ∧ p = .int .i64 (lastP g (s.take j) k) ∧ Hid (Ext w1 wr)) (fun _ i _ => s.length - (intOf i).toNat)
  case atStart => exact ⟨0, Nat.zero_le _, rfl, by rw [List.take_zero, lastP_nil], Ext.refl _⟩
  case round =>
    obtain ⟨j, hj, rfl, rfl, hE⟩ := hrel
    have k0' := hE.out.cell k0
    have k1' := hE.out.cell k1
    have k2' := hE.out.cell k2
    by_cases hlt : j < s.length
    · have hx : s[j]? = some s[j] := List.getElem?_eq_getElem hlt
      generalize s[j] = x at hx
      obtain ⟨ad, rfl, q0, q1⟩ := (hs.ext (HE.out.trans hE.out)).ev hx
      have HL := Lib.hid (lastP_take (g := g) (c := k) hx)
      clear hx
      have y0 : ∀ y : Up wr, y.u.cell? _ = _ := fun y => y.ext.cell k0'
      have y1 : ∀ y : Up wr, y.u.cell? _ = _ := fun y => y.ext.cell k1'
      have y2 : ∀ y : Up wr, y.u.cell? _ = _ := fun y => y.ext.cell k2'
      have y3 : ∀ y : Up wr, y.u.cell? _ = _ := fun y => y.ext.cell q1
      have HC : Hid (∀ y : Up wr, _) := Lib.hid fun y : Up wr => quietU (ref29_Class g x.chg _ y.u (HV.out.ext (hE.out.trans y.ext)))
      generalize cls g x.chg = z at HC HL
      clear k0' k1' k2' q0 q1
      go_wp2
      by_cases hz : z = k
      · have e1 : (z == k) = true := beq_iff_eq.2 hz
        have HZ := Lib.hid hz
        clear hz
        refine wp_quietU (by kernel_rfl) (by kernel_rfl) ?_
        repeat (go_big_quiet_step ((first | (go_at_call 35; exact HC.out _))))
        refine wpQuiet_nil ?_
        rintro _ ⟨y, rfl⟩
        have HE2 := Lib.hid (hE.out.trans y.ext)
        clear y0 y1 y2 y3 HC hE
        go_wp2
        go_roundw
        case rel => exact ⟨j + 1, by omega, by go_num, by rw [HL.out, if_pos HZ.out], HE2.out⟩
        case measure => simp [intOf]; omega
      · have e1 : (z == k) = false := beq_eq_false_iff_ne.2 hz
        have HZ := Lib.hid hz
        clear hz
        refine wp_quietU (by kernel_rfl) (by kernel_rfl) ?_
        repeat (go_big_quiet_step ((first | (go_at_call 35; exact HC.out _))))
        refine wpQuiet_nil ?_
        rintro _ ⟨y, rfl⟩
        have HE2 := Lib.hid (hE.out.trans y.ext)
        clear y0 y1 y2 y3 HC hE
        go_wp2
        go_roundw
        case rel => exact ⟨j + 1, by omega, by go_num, by rw [HL.out, if_neg HZ.out], HE2.out⟩
        case measure => simp [intOf]; omega
    · have HR : Hid (lastP g (s.take j) k = lastP g s k) := Lib.hid (by rw [List.take_of_length_le (by omega)])
      go_wp2
      go_ret
      exact ⟨ret_int HR.out, HE.out.trans hE.out⟩

theorem ref29_In (g : Lg) (s : List Ev) (k : Int) (v : Value) (A : Option Addr) (c : Nat) (w : World) (hv : LgV w v g) (hs : Rd elEv w A s) (hc : s.length ≤ c) :
    Calls Tryz.prog 182 #[v, .slice A s.length c, .int .i64 k] w fun e w' => e = .returned (.bool (inP g s k)) ∧ Ext w w' := by
  obtain ⟨A0, c0, A1, c1, A2, c2, rfl, h0, h1, h2, r0, r1, r2⟩ := hv.ex
  have hm := hs.1
  have hlr := lastP_lt g s k
  have HIN := Lib.hid (inP_last g s k)
  go_enter Tryz.func182, Tryz.ntmps182
  go_wp2_with (with_reducible refine stop_box ?_)
  refine Stop.go ?_
  refine ev_box3 (c0 := .slice A0 g.known.length c0) (c1 := .slice A1 g.brs.length c1) (c2 := .slice A2 g.evs.length c2) rfl ?_
  intro g1 w1 hb_g1 he hg_g1 k0 k1 k2
  have HL := Lib.hid (ref29_last g s k _ A c w1 (hv.ext he) (hs.ext he) hc)
  have HE := Lib.hid he
  have HS := Lib.hid hs
  clear he r0 r1 r2 hv hb_g1 hg_g1 hs
  generalize lastP g s k = z at *
  go_wp2_with fail
  refine HL.out.mono ?_
  rintro e w2 ⟨rfl, he2⟩
  have HE2 := Lib.hid (HE.out.trans he2)
  by_cases hz : 0 ≤ z
  · obtain ⟨j, hj⟩ : ∃ j : Nat, z = j := ⟨z.toNat, by omega⟩
    subst hj
    have hjl : j < s.length := by omega
    have hx : s[j]? = some s[j] := List.getElem?_eq_getElem hjl
    have hgx : (s.getD j default) = s[j] := by rw [List.getD_eq_getElem?_getD, hx]; rfl
    rw [Int.toNat_natCast, hgx] at HIN
    generalize s[j] = x at hx HIN
    obtain ⟨ad, rfl, q0, q1⟩ := (HS.out.ext HE2.out).ev hx
    clear hx hgx he2
    by_cases h3 : x.kind = 3
    · have e1 : (x.kind != 3) = false := by rw [h3]; rfl
      have HR : Hid (inP g s k = false) := Lib.hid (by rw [HIN.out]; simp [h3])
      clear h3
      go_wp2
      go_ret
      exact ⟨ret_bool HR.out.symm, HE2.out⟩
    · have e1 : (x.kind != 3) = true := bne_iff_ne.2 h3
      have HR : Hid (inP g s k = true) := Lib.hid (by rw [HIN.out]; simp [h3])
      clear h3
      go_wp2
      go_ret
      exact ⟨ret_bool HR.out.symm, HE2.out⟩
  · have HR : Hid (inP g s k = false) := Lib.hid (by rw [HIN.out]; simp [hz])
    clear he2
    go_wp2
    go_ret
    exact ⟨ret_bool HR.out.symm, HE2.out⟩
end Go.Proofs.YtgibdafkidkahaaGreatDoor
