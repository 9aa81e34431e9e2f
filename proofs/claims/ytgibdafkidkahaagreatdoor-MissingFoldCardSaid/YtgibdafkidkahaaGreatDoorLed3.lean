/- Derived: walks: the reference of layer 29: the events of marks, what is in effect. -/
import Derived.Test.YtgibdafkidkahaaGreatDoorLed1
set_option linter.unusedVariables false
set_option linter.unusedSimpArgs false
namespace Go.Proofs.YtgibdafkidkahaaGreatDoor
open Go.RowKit

theorem evsOf_take_succ {g : Lg} {v : List Mk} {k : Nat} {m : Mk} (h : v[k]? = some m) : evsOf g (v.take (k + 1)) = evsOf g (v.take k) ++ [evAt g m] := by
  unfold evsOf
  rw [List.take_add_one, h]
  simp
set_option maxRecDepth 100000 in
set_option maxHeartbeats 4000000 in
theorem ref29_Seen (g : Lg) (v : List Mk) (n : Nat) (gv : Value) (A : Option Addr) (c : Nat) (w : World) (hv : LgV w gv g) (hs : Rd elMk w A v) (hc : v.length ≤ c) (hok : ∀ m ∈ v, MkOk g m) (hlen : v.length ≤ 400) (hn : n ≤ 400) :
    Calls Tryz.prog 34 #[gv, .slice A v.length c, .int .i64 (n : Int)] w fun e w' => ∃ r, e = .returned r ∧ Own elEv 76 w.heap.size w' r (evsOf g (v.take n)) ∧ Ext w w' := by
  obtain ⟨A0, c0, A1, c1, A2, c2, rfl, h0, h1, h2, r0, r1, r2⟩ := hv.ex
  go_enter Tryz.func34, Tryz.ntmps34
  go_wp2_with (with_reducible refine stop_box ?_)
  refine Stop.go ?_
  refine ev_box3 (c0 := .slice A0 g.known.length c0) (c1 := .slice A1 g.brs.length c1) (c2 := .slice A2 g.evs.length c2) rfl ?_
  intro g1 w1 hb_g1 he hg_g1 k0 k1 k2
  have HE := Lib.hid he
  have HV := Lib.hid (hv.ext he)
  have R2 := Lib.hid (r2.ext he)
  have HS := Lib.hid (hs.ext he)
  have HSZ : Hid (w.heap.size ≤ w1.heap.size) := Lib.hid he.size
  clear he r0 r1 r2 hv hb_g1 hg_g1 hs
  go_wp2
  go_loopw [7, 8] (fun o i wr => ∃ k : Nat, k ≤ n ∧ k ≤ v.length ∧ i = .int .i64 (k : Int) ∧ Hid (Own elEv 76 w1.heap.size wr o (evsOf g (v.take k))) ∧ Hid (Ext w1 wr)) (fun _ i _ => n - (intOf i).toNat)
  case atStart => exact ⟨0, Nat.zero_le _, Nat.zero_le _, rfl, Own.nil _ _ _ _, Ext.refl _⟩
  case round =>
    obtain ⟨k, hk, hk2, rfl, HO, hE⟩ := hrel
    have k2' := hE.out.cell k2
    by_cases hlt : k < n ∧ k < v.length
    · obtain ⟨hkn, hkv⟩ := hlt
      have hx : v[k]? = some v[k] := List.getElem?_eq_getElem hkv
      have hmk := hok v[k] (List.getElem_mem hkv)
      generalize v[k] = m at hx hmk
      obtain ⟨i, j, own, ev, hi, hj, hown, hev, hat⟩ := hmk.get
      obtain ⟨ad, e0, q0, q1⟩ := HS.out.mk hx
      rw [hi] at q0
      rw [hj] at q1
      obtain ⟨ad2, D, cD, e1, q2, hcD, q3⟩ := R2.out.sub hown
      obtain ⟨ad3, e2, q4, q5⟩ := q3.ev hev
      cases e0
      cases e1
      cases e2
      have hil : i < g.evs.length := (List.getElem?_eq_some_iff.1 hown).1
      have hjl : j < own.length := (List.getElem?_eq_some_iff.1 hev).1
      have HT : Hid (evsOf g (v.take (k + 1)) = evsOf g (v.take k) ++ [ev]) := Lib.hid (by rw [evsOf_take_succ hx, hat])
      have HLN : Hid ((evsOf g (v.take k)).length < 1000000) := Lib.hid (by unfold evsOf; rw [List.length_map, List.length_take]; omega)
      have y2 : ∀ y : Up w1, y.u.cell? _ = _ := fun y => y.ext.cell k2
      have z0 : ∀ y : Up w1, y.u.cell? _ = _ := fun y => y.ext.cell q0
      have z1 : ∀ y : Up w1, y.u.cell? _ = _ := fun y => y.ext.cell q1
      have z2 : ∀ y : Up w1, y.u.cell? _ = _ := fun y => y.ext.cell q2
      have z4 : ∀ y : Up w1, y.u.cell? _ = _ := fun y => y.ext.cell q4
      have z5 : ∀ y : Up w1, y.u.cell? _ = _ := fun y => y.ext.cell q5
      clear hx hmk hi hj hown hev hat k2' q0 q1 q2 q3 q4 q5 hcD
      go_wp2
      refine wp_region_planE hE.out [(true, 0), (true, 1), (true, 2), (true, 3), (true, 4), (true, 5), (true, 6), (true, 7), (true, 8), (true, 9), (true, 10), (true, 11), (true, 12), (true, 13), (true, 14), (true, 15), (true, 16), (false, 17), (false, 18), (true, 19)] (by kernel_rfl) (by kernel_rfl) ?_
      iterate 17 ((try go_frame); refine plan_read ?_; go_big_quiet_step (fail); refine wpQuiet_nil ?_)
      refine plan_pair rfl rfl hE.out.drew (fun n w1 h => lit_ext (y := .agg #[.int .u8 ev.kind, .string ev.chg]) rfl (litEv ev) h) ?_
      refine ev_appEv (w0 := w1) (B := w1.heap.size) ev rfl (fun _ => rfl) (fun _ => rfl) HO.out hE.out.drew rfl HLN.out ?_
      intro u v2 w2 ho2 he2 hgr _
      refine ⟨he2, ?_⟩
      ((try go_frame); refine plan_read ?_; go_big_quiet_step (fail); refine wpQuiet_nil ?_)
      refine plan_end ?_
      have HO2 : Hid (Own elEv 76 w1.heap.size w2 v2 (evsOf g (v.take (k + 1)))) := Lib.hid (by rw [HT.out]; exact ho2)
      have HE2 := Lib.hid he2
      clear y2 z0 z1 z2 z4 z5 ho2 he2 hgr HO hE HT HLN
      go_wp2
      go_roundw
      case rel => exact ⟨k + 1, by omega, by omega, by go_num, HO2.out, HE2.out⟩
      case measure => simp [intOf]; omega
    · have HO2 : Hid (Own elEv 76 w1.heap.size wr _ (evsOf g (v.take n))) := Lib.hid (by
        have e : v.take n = v.take k := by
          rcases (show k = n ∨ k = v.length by omega) with h | h
          · rw [h]
          · rw [List.take_of_length_le (by omega), List.take_of_length_le (by omega)]
        rw [e]
        exact HO.out)
      have HE2 : Hid (Ext w wr) := Lib.hid (HE.out.trans hE.out)
      clear HO
      by_cases hkn : k < n
      · have hkv : ¬ k < v.length := by omega
        clear hlt
        go_wp2
        go_ret
        exact ⟨_, rfl, HO2.out.lower HSZ.out, HE2.out⟩
      · clear hlt
        go_wp2
        go_ret
        exact ⟨_, rfl, HO2.out.lower HSZ.out, HE2.out⟩

/-- The classes that are in effect behind some events. -/
def effN (g : Lg) (s : List Ev) (k : Nat) : List Int := ((List.range k).filter fun c : Nat => inP g s (c : Int)).map fun c : Nat => (c : Int)
def effL (g : Lg) (s : List Ev) : List Int := effN g s 30
theorem effN_succ (g : Lg) (s : List Ev) (k : Nat) : effN g s (k + 1) = if inP g s k then effN g s k ++ [(k : Int)] else effN g s k := by
  unfold effN
  rw [List.range_succ, List.filter_append]
  cases h : inP g s k <;> simp [h]
theorem effN_len (g : Lg) (s : List Ev) (k : Nat) : (effN g s k).length ≤ k := by
  unfold effN
  rw [List.length_map]
  exact Nat.le_trans (List.length_filter_le _ _) (by simp)
set_option maxRecDepth 100000 in
theorem ref29_effect (g : Lg) (s : List Ev) (v : Value) (A : Option Addr) (c : Nat) (w : World) (hv : LgV w v g) (hs : Rd elEv w A s) (hc : s.length ≤ c) :
    Calls Tryz.prog 162 #[v, .slice A s.length c] w fun e w' => ∃ r, e = .returned r ∧ Own elInt 3 w.heap.size w' r (effL g s) ∧ Ext w w' := by
  obtain ⟨A0, c0, A1, c1, A2, c2, rfl, h0, h1, h2, r0, r1, r2⟩ := hv.ex
  have hm := hs.1
  go_enter Tryz.func162, Tryz.ntmps162
  go_wp2_with (with_reducible refine stop_box ?_)
  refine Stop.go ?_
  refine ev_box3 (c0 := .slice A0 g.known.length c0) (c1 := .slice A1 g.brs.length c1) (c2 := .slice A2 g.evs.length c2) rfl ?_
  intro g1 w1 hb_g1 he hg_g1 k0 k1 k2
  have HE := Lib.hid he
  have HI : Hid (∀ (k : Int) (w2 : World), Ext w1 w2 → _) := Lib.hid fun (k : Int) w2 (he2 : Ext w1 w2) => ref29_In g s k _ A c w2 (hv.ext (he.trans he2)) (hs.ext (he.trans he2)) hc
  clear he r0 r1 r2 hv hb_g1 hg_g1 hs
  go_wp2
  go_loopw [5, 6] (fun o i wr => ∃ k : Nat, k ≤ 30 ∧ i = .int .i64 (k : Int) ∧ Hid (Own elInt 3 w1.heap.size wr o (effN g s k)) ∧ Hid (Ext w1 wr)) (fun _ i _ => 30 - (intOf i).toNat)
  case atStart => exact ⟨0, Nat.zero_le _, rfl, Own.nil _ _ _ _, Ext.refl _⟩
  case round =>
    obtain ⟨k, hk, rfl, HO, hE⟩ := hrel
    have k0' := hE.out.cell k0
    have k1' := hE.out.cell k1
    have k2' := hE.out.cell k2
    by_cases hlt : k < 30
    · have HS := Lib.hid (effN_succ g s k)
      have HL := Lib.hid (effN_len g s k)
      have HI2 : Hid (∀ w2, Ext w1 w2 → _) := Lib.hid fun w2 (he2 : Ext w1 w2) => HI.out k w2 he2
      cases hin : inP g s k with
      | true =>
        rw [hin] at HI2 HS
        clear hin
        go_wp2_with fail
        refine (HI2.out wr hE.out).mono ?_
        rintro e w2 ⟨rfl, he2⟩
        go_wp2_with (with_reducible refine stop_lit ?_)
        refine Stop.go ?_
        refine ev_appInt (k : Int) rfl (fun _ => rfl) (fun _ => rfl) (HO.out.ext he2) (hE.out.trans he2) rfl (by have := HL.out; omega) ?_
        intro u v3 w3 ho3 he3 _ _
        have HO3 : Hid (Own elInt 3 w1.heap.size w3 v3 (effN g s (k + 1))) := Lib.hid (by rw [HS.out]; exact ho3)
        have HE3 := Lib.hid he3
        clear ho3 he3 he2 HO hE k0' k1' k2' HS HL HI2
        go_wp2
        go_roundw
        case rel => exact ⟨k + 1, by omega, by go_num, HO3.out, HE3.out⟩
        case measure => simp [intOf]; omega
      | false =>
        rw [hin] at HI2 HS
        clear hin
        go_wp2_with fail
        refine (HI2.out wr hE.out).mono ?_
        rintro e w2 ⟨rfl, he2⟩
        have HO3 : Hid (Own elInt 3 w1.heap.size w2 _ (effN g s (k + 1))) := Lib.hid (by rw [HS.out]; exact HO.out.ext he2)
        have HE3 := Lib.hid (hE.out.trans he2)
        clear he2 HO hE k0' k1' k2' HS HL HI2
        go_wp2
        go_roundw
        case rel => exact ⟨k + 1, by omega, by go_num, HO3.out, HE3.out⟩
        case measure => simp [intOf]; omega
    · have hk30 : k = 30 := by omega
      have HO2 : Hid (Own elInt 3 w1.heap.size wr _ (effL g s)) := Lib.hid (by have := HO.out; rw [hk30] at this; exact this)
      have HE2 : Hid (Ext w wr) := Lib.hid (HE.out.trans hE.out)
      clear HO hk30
      go_wp2
      go_ret
      exact ⟨_, rfl, HO2.out.lower HE.out.size, HE2.out⟩
end Go.Proofs.YtgibdafkidkahaaGreatDoor
