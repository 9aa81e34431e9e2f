/- Derived: walks: the reference of layer 34: gaps in order. -/
import Derived.Test.YtgibdafkidkahaaGreatDoorRef34A
import Derived.Test.YtgibdafkidkahaaGreatDoorGaps
set_option linter.unusedVariables false
set_option linter.unusedSimpArgs false
namespace Go.Proofs.YtgibdafkidkahaaGreatDoor
open Go.RowKit

theorem ref34_has (l : List Int) (n : Int) (A : Option Addr) (c : Nat) (w : World) (hl : Rd elInt w A l) :
    Calls Tryz.prog 163 #[.slice A l.length c, .int .i64 n] w fun e w' => e = .returned (.bool (decide (n ∈ l))) ∧ w = w' := by
  have hm := hl.1
  go_enter Tryz.func163, Tryz.ntmps163
  go_wp2
  go_loop [5] (fun i => ∃ k : Nat, k ≤ l.length ∧ i = .int .i64 k ∧ Hid (∀ (j : Nat) x, j < k → l[j]? = some x → x ≠ n)) (fun i => l.length - (intOf i).toNat)
  case atStart => exact ⟨0, Nat.zero_le _, rfl, fun j x hj => absurd hj (by omega)⟩
  case round =>
    obtain ⟨k, hk, rfl, hn⟩ := hrel
    by_cases hlt : k < l.length
    · have hx : l[k]? = some l[k] := List.getElem?_eq_getElem hlt
      generalize l[k] = x at hx
      obtain ⟨ad, rfl, h0⟩ := hl.int hx
      have HX := Lib.hid hx
      clear hx hl
      by_cases hs : x = n
      · have e1 : (x == n) = true := by rw [hs]; exact beq_self_eq_true _
        have HV : Hid (decide (n ∈ l) = true) := Lib.hid (decide_eq_true (by rw [← hs]; exact List.mem_of_getElem? HX.out))
        clear hs
        go_wp2
        go_ret
        exact ⟨ret_bool HV.out.symm, rfl⟩
      · have e1 : (x == n) = false := beq_eq_false_iff_ne.2 hs
        have HS := Lib.hid hs
        clear hs
        go_wp2
        go_round
        case rel =>
          refine ⟨k + 1, by omega, by go_num, fun j y hj hy => ?_⟩
          rcases Nat.lt_succ_iff_lt_or_eq.1 hj with h | rfl
          · exact hn.out j y h hy
          · rw [HX.out] at hy; cases hy; exact HS.out
        case measure => simp [intOf]; omega
    · have HV : Hid (decide (n ∈ l) = false) := Lib.hid (decide_eq_false (by
        intro hm
        obtain ⟨j, hj⟩ := List.getElem?_of_mem hm
        exact hn.out j n (by have := (List.getElem?_eq_some_iff.1 hj).1; omega) hj rfl))
      go_wp2
      go_ret
      exact ⟨ret_bool HV.out.symm, rfl⟩
theorem ref34_Wanted (f : Fx) (nm : Str) (B : Option Addr) (c : Nat) (w : World) (hl : Rd elStr w B f.brs) :
    Calls Tryz.prog 36 #[.agg #[.int .i64 f.cls, .int .i64 f.wt, .slice B f.brs.length c], .string nm] w fun e w' => e = .returned (.bool (wanted f nm)) ∧ Ext w w' := by
  have hm := hl.1
  go_enter Tryz.func36, Tryz.ntmps36
  go_wp2_with (with_reducible refine stop_box ?_)
  refine Stop.go ?_
  refine ev_box3 (c0 := .int .i64 f.cls) (c1 := .int .i64 f.wt) (c2 := .slice B f.brs.length c) rfl ?_
  intro g1 w1 hb he hg k0 k1 k2
  have HE := Lib.hid he
  have RL := Lib.hid (hl.ext he)
  clear hb he hg hl
  go_wp2
  go_loop [5] (fun i => ∃ k : Nat, k ≤ f.brs.length ∧ i = .int .i64 k ∧ Hid (∀ (j : Nat) x, j < k → f.brs[j]? = some x → x ≠ nm)) (fun i => f.brs.length - (intOf i).toNat)
  case atStart => exact ⟨0, Nat.zero_le _, rfl, fun j x hj => absurd hj (by omega)⟩
  case round =>
    obtain ⟨k, hk, rfl, hn⟩ := hrel
    by_cases hlt : k < f.brs.length
    · have hx : f.brs[k]? = some f.brs[k] := List.getElem?_eq_getElem hlt
      generalize f.brs[k] = x at hx
      obtain ⟨ad, rfl, h0⟩ := RL.out.str hx
      have HX := Lib.hid hx
      clear hx
      by_cases hs : x = nm
      · have e1 := seq_t hs
        have HV : Hid (wanted f nm = true) := Lib.hid (List.any_eq_true.2 ⟨x, List.mem_of_getElem? HX.out, by simpa using hs⟩)
        clear hs
        go_wp2
        go_ret
        exact ⟨ret_bool HV.out.symm, HE.out⟩
      · have e1 := seq_f hs
        have HS := Lib.hid hs
        clear hs
        go_wp2
        go_round
        case rel =>
          refine ⟨k + 1, by omega, by go_num, fun j y hj hy => ?_⟩
          rcases Nat.lt_succ_iff_lt_or_eq.1 hj with h | rfl
          · exact hn.out j y h hy
          · rw [HX.out] at hy; cases hy; exact HS.out
        case measure => simp [intOf]; omega
    · have HV : Hid (wanted f nm = false) := Lib.hid (by
        unfold wanted
        rw [List.any_eq_false]
        intro x hx
        obtain ⟨j, hj⟩ := List.getElem?_of_mem hx
        have := hn.out j x (by have := (List.getElem?_eq_some_iff.1 hj).1; omega) hj
        simpa using this)
      go_wp2
      go_ret
      exact ⟨ret_bool HV.out.symm, HE.out⟩

/-! ### the parts of the list -/
theorem ordAt_take {fx : List Fx} {i : Nat} {x : Fx} (h : fx[i]? = some x) (w c : Int) (p : Str × List Int) :
    ordAt (fx.take (i + 1)) w c p = ordAt (fx.take i) w c p ++ if x.wt = w ∧ x.cls = c ∧ wanted x p.1 = true ∧ c ∉ p.2 then [⟨p.1, c, w⟩] else [] := by
  unfold ordAt
  rw [List.take_add_one, h, List.filterMap_append]
  congr 1
  simp only [Option.toList, List.filterMap_cons, List.filterMap_nil]
  split
  · rename_i h1; split at h1
    · cases h1
    · rename_i h2; rw [if_neg h2]
  · rename_i h1; split at h1
    · rename_i h2; cases h1; rw [if_pos h2]
    · cases h1
theorem flat_take {α β : Type} {l : List α} {k : Nat} {x : α} (h : l[k]? = some x) (f : α → List β) : (l.take (k + 1)).flatMap f = (l.take k).flatMap f ++ f x := by
  rw [List.take_add_one, h]; simp
theorem flat_all {α β : Type} {l : List α} {k : Nat} (h : l.length ≤ k) (f : α → List β) : (l.take k).flatMap f = l.flatMap f := by rw [List.take_of_length_le h]
theorem flat_le {α β : Type} (f : α → List β) (b : Nat) : ∀ (l : List α), (∀ x ∈ l, (f x).length ≤ b) → (l.flatMap f).length ≤ l.length * b
  | [], _ => by simp
  | x :: l, h => by
    rw [List.flatMap_cons, List.length_append, List.length_cons, Nat.succ_mul]
    have := flat_le f b l (fun y hy => h y (List.mem_cons_of_mem _ hy))
    have := h x List.mem_cons_self
    omega
theorem ordAt_le (fx : List Fx) (w c : Int) (p : Str × List Int) : (ordAt fx w c p).length ≤ fx.length := by unfold ordAt; exact List.length_filterMap_le _ _
def P3 (fx : List Fx) (bs : List (Str × List Int)) (w c : Int) : List Gp := bs.flatMap fun p => ordAt fx w c p
def P2 (fx : List Fx) (bs : List (Str × List Int)) (w : Int) : List Gp := up30.flatMap fun c => P3 fx bs w c
theorem ordL_P (fx : List Fx) (bs : List (Str × List Int)) : ordL fx bs = down9.flatMap fun w => P2 fx bs w := rfl
theorem P3_le (fx : List Fx) (bs : List (Str × List Int)) (w c : Int) : (P3 fx bs w c).length ≤ bs.length * fx.length := flat_le _ _ _ fun p _ => ordAt_le fx w c p
theorem P2_le (fx : List Fx) (bs : List (Str × List Int)) (w : Int) : (P2 fx bs w).length ≤ 30 * (bs.length * fx.length) := flat_le _ _ up30 fun c _ => P3_le fx bs w c
theorem down9_get {m : Nat} (h : m < 9) : down9[m]? = some (9 - (m : Int)) := by
  rcases (show m = 0 ∨ m = 1 ∨ m = 2 ∨ m = 3 ∨ m = 4 ∨ m = 5 ∨ m = 6 ∨ m = 7 ∨ m = 8 by omega) with rfl | rfl | rfl | rfl | rfl | rfl | rfl | rfl | rfl <;> rfl
theorem up30_get {n : Nat} (h : n < 30) : up30[n]? = some (n : Int) := by
  unfold up30
  rw [List.getElem?_map, List.getElem?_range h]
  rfl
/-- The gaps that have been found. -/
def OutAt (w0 wr : World) (o : Value) (xs : List Gp) : Prop := Own elGp 62 w0.heap.size wr o xs ∧ Ext w0 wr
set_option maxRecDepth 100000 in
set_option maxHeartbeats 8000000 in
theorem ref34_ordered (g : Lg) (fx : List Fx) (bs : List (Str × List Int)) (v : Value) (A A3 A4 : Option Addr) (c c3 c4 n : Nat) (w : World) (hv : LgV w v g) (hf : Rd elFx w A fx) (hb : Rd elStr w A3 (bs.map (·.1))) (hi : Rd (El.sl elInt) w A4 (bs.map (·.2))) (hn : bs.length = n)
    (hf30 : fx.length ≤ 30) (hb8 : n ≤ 8) :
    Calls Tryz.prog 78 #[v, .slice A fx.length c, .slice A3 n c3, .slice A4 n c4] w fun e w' => ∃ r, e = .returned r ∧ Own elGp 62 w.heap.size w' r (ordL fx bs) ∧ Ext w w' := by
  obtain ⟨A0, c0, A1, c1, A2, c2, rfl, h0, h1, h2, r0, r1, r2⟩ := hv.ex
  have hbig : bs.length * fx.length ≤ 8 * 30 := Nat.mul_le_mul (by omega) hf30
  have HP3 : Hid (∀ w c, (P3 fx bs w c).length ≤ 240) := Lib.hid fun w c => Nat.le_trans (P3_le fx bs w c) hbig
  have HP2 : Hid (∀ w, (P2 fx bs w).length ≤ 7200) := Lib.hid fun w => Nat.le_trans (P2_le fx bs w) (by omega)
  have HN := Lib.hid hn
  have RF := Lib.hid hf
  have RB := Lib.hid hb
  have RI := Lib.hid hi
  clear hbig r0 r1 r2 hv hn hf hb hi
  go_enter Tryz.func78, Tryz.ntmps78
  go_wp2_with (with_reducible refine stop_box ?_)
  refine Stop.go ?_
  refine ev_box3 (c0 := .slice A0 g.known.length c0) (c1 := .slice A1 g.brs.length c1) (c2 := .slice A2 g.evs.length c2) rfl ?_
  intro g1 w1 hb_g1 he hg_g1 k0 k1 k2
  have HO0 : Hid (OutAt w w1 (.slice none 0 0) ((down9.take 0).flatMap fun w => P2 fx bs w)) := Lib.hid ⟨Own.nil _ _ _ _, he⟩
  clear he hb_g1 hg_g1 k0 k1 k2
  go_wp2
  go_loopw [9, 10] (fun o wv wr => ∃ (m : Nat) (wI : Int), m ≤ 9 ∧ 0 ≤ wI ∧ wI ≤ 9 ∧ Hid (wI = 9 - (m : Int)) ∧ wv = .int .i64 wI ∧ Hid (OutAt w wr o ((down9.take m).flatMap fun w => P2 fx bs w))) (fun _ wv _ => (intOf wv).toNat)
  case atStart => exact ⟨0, 9, by omega, by omega, by omega, rfl, rfl, HO0.out⟩
  case round =>
    clear HO0
    obtain ⟨m, wI, hm, hw0, hw9, HW, rfl, HO⟩ := hrel
    by_cases hlt : 1 ≤ wI
    · have hm9 : m < 9 := by have := HW.out; omega
      have HT1 := Lib.hid (flat_take (down9_get hm9) (fun w => P2 fx bs w))
      have HLN1 : Hid (((down9.take m).flatMap fun w => P2 fx bs w).length ≤ 64800) := Lib.hid (by
        have := flat_le (fun w => P2 fx bs w) 7200 (down9.take m) (fun x _ => HP2.out x)
        rw [List.length_take] at this
        have h2 : min m down9.length * 7200 ≤ 9 * 7200 := Nat.mul_le_mul_right _ (by show min m 9 ≤ 9; omega)
        omega)
      have HO2 : Hid (OutAt w wr _ (((down9.take m).flatMap fun w => P2 fx bs w) ++ (up30.take 0).flatMap fun c => P3 fx bs wI c)) := Lib.hid (by simpa using HO.out)
      rw [← HW.out] at HT1
      clear HO
      generalize ((down9.take m).flatMap fun w => P2 fx bs w) = L1 at HT1 HLN1 HO2
      go_wp2
      go_loopw [9, 11] (fun o cv wr => ∃ n : Nat, n ≤ 30 ∧ cv = .int .i64 (n : Int) ∧ Hid (OutAt w wr o (L1 ++ (up30.take n).flatMap fun c => P3 fx bs wI c))) (fun _ cv _ => 30 - (intOf cv).toNat)
      case atStart => exact ⟨0, by omega, rfl, HO2.out⟩
      case round =>
        clear HO2
        obtain ⟨q, hq, rfl, HO⟩ := hrel
        by_cases hlt2 : q < 30
        · have e0 : decide ((q : Int) < 30) = true := decide_eq_true (by omega)
          have HT2 := Lib.hid (flat_take (up30_get hlt2) (fun c => P3 fx bs wI c))
          have HLN2 : Hid ((L1 ++ (up30.take q).flatMap fun c => P3 fx bs wI c).length ≤ 72000) := Lib.hid (by
            have := flat_le (fun c => P3 fx bs wI c) 240 (up30.take q) (fun x _ => HP3.out wI x)
            rw [List.length_take] at this
            have h2 : min q up30.length * 240 ≤ 30 * 240 := Nat.mul_le_mul_right _ (by show min q 30 ≤ 30; omega)
            have := HLN1.out
            rw [List.length_append]
            omega)
          have HO3 : Hid (OutAt w wr _ ((L1 ++ (up30.take q).flatMap fun c => P3 fx bs wI c) ++ (bs.take 0).flatMap fun p => ordAt fx wI (q : Int) p)) := Lib.hid (by simpa using HO.out)
          have HT2' : Hid (L1 ++ (up30.take (q + 1)).flatMap (fun c => P3 fx bs wI c) = (L1 ++ (up30.take q).flatMap fun c => P3 fx bs wI c) ++ P3 fx bs wI (q : Int)) := Lib.hid (by rw [HT2.out, List.append_assoc])
          clear HO HT2
          generalize (L1 ++ (up30.take q).flatMap fun c => P3 fx bs wI c) = L2 at HT2' HLN2 HO3
          go_wp2
          go_loopw [9, 12] (fun o bv wr => ∃ b : Nat, b ≤ n ∧ bv = .int .i64 (b : Int) ∧ Hid (OutAt w wr o (L2 ++ (bs.take b).flatMap fun p => ordAt fx wI (q : Int) p))) (fun _ bv _ => n - (intOf bv).toNat)
          case atStart => exact ⟨0, Nat.zero_le _, rfl, HO3.out⟩
          case round =>
            clear HO3
            obtain ⟨b, hb, rfl, HO⟩ := hrel
            by_cases hlt3 : b < n
            · have hp : bs[b]? = some (bs[b]'(by rw [HN.out]; exact hlt3)) := List.getElem?_eq_getElem _
              generalize bs[b]'(by rw [HN.out]; exact hlt3) = p at hp
              have HT3 := Lib.hid (flat_take hp (fun p => ordAt fx wI (q : Int) p))
              have HLN3 : Hid ((L2 ++ (bs.take b).flatMap fun p => ordAt fx wI (q : Int) p).length ≤ 73000) := Lib.hid (by
                have := flat_le (fun p => ordAt fx wI (q : Int) p) 30 (bs.take b) (fun x _ => Nat.le_trans (ordAt_le fx wI q x) hf30)
                rw [List.length_take, HN.out] at this
                have h2 : min b n * 30 ≤ 8 * 30 := Nat.mul_le_mul_right _ (by omega)
                have := HLN2.out
                rw [List.length_append]
                omega)
              have HO4 : Hid (OutAt w wr _ ((L2 ++ (bs.take b).flatMap fun p => ordAt fx wI (q : Int) p) ++ ordAt (fx.take 0) wI (q : Int) p)) := Lib.hid (by rw [List.take_zero, show ordAt [] wI (q : Int) p = [] from rfl, List.append_nil]; exact HO.out)
              have HT3' : Hid (L2 ++ (bs.take (b + 1)).flatMap (fun p => ordAt fx wI (q : Int) p) = (L2 ++ (bs.take b).flatMap fun p => ordAt fx wI (q : Int) p) ++ ordAt fx wI (q : Int) p) := Lib.hid (by rw [HT3.out, List.append_assoc])
              have hb1 : (bs.map (·.1))[b]? = some p.1 := by rw [List.getElem?_map, hp]; rfl
              have hb2 : (bs.map (·.2))[b]? = some p.2 := by rw [List.getElem?_map, hp]; rfl
              obtain ⟨nm, inn⟩ := p
              obtain ⟨ad3, rfl, zb⟩ := RB.out.str hb1
              obtain ⟨ad4, B4, cB4, rfl, zi, hcB4, hri⟩ := RI.out.sub hb2
              have RIN := Lib.hid hri
              simp only at zb zi hcB4 HO4 HT3'
              clear hp HO HT3 hb1 hb2 hri
              generalize (L2 ++ (bs.take b).flatMap fun p => ordAt fx wI (q : Int) p) = L3 at HT3' HLN3 HO4
              go_wp2
              go_loopw [9, 13] (fun o iv wr => ∃ i : Nat, i ≤ fx.length ∧ iv = .int .i64 (i : Int) ∧ Hid (OutAt w wr o (L3 ++ ordAt (fx.take i) wI (q : Int) (nm, inn)))) (fun _ iv _ => fx.length - (intOf iv).toNat)
              case atStart => exact ⟨0, Nat.zero_le _, rfl, HO4.out⟩
              case round =>
                clear HO4
                obtain ⟨i, hi, rfl, HO⟩ := hrel
                by_cases hlt4 : i < fx.length
                · have hx : fx[i]? = some fx[i] := List.getElem?_eq_getElem hlt4
                  generalize fx[i] = x at hx
                  obtain ⟨ad, B, cB, rfl, z0, z1, z2, hcB, qr⟩ := (RF.out.ext HO.out.2).fx hx
                  have HT4 := Lib.hid (ordAt_take hx wI (q : Int) (nm, inn))
                  have HLN4 : Hid ((L3 ++ ordAt (fx.take i) wI (q : Int) (nm, inn)).length < 1000000) := Lib.hid (by
                    have := ordAt_le (fx.take i) wI q (nm, inn)
                    rw [List.length_take] at this
                    have := HLN3.out
                    rw [List.length_append]
                    omega)
                  have QR := Lib.hid qr
                  have zb' := HO.out.2.cell zb
                  have zi' := HO.out.2.cell zi
                  clear hx qr
                  have HCW : Hid (∀ y : Up wr, _) := Lib.hid fun y : Up wr => quietU (ref34_Wanted x nm B cB y.u (QR.out.ext y.ext))
                  have HCH : Hid (∀ y : Up wr, _) := Lib.hid fun y : Up wr => quietUs ((ref34_has inn (q : Int) B4 cB4 y.u (RIN.out.ext (HO.out.2.trans y.ext))).mono fun _ _ ⟨h1, h2⟩ => ⟨h1, h2⟩)
                  have y0 : ∀ y : Up wr, y.u.cell? _ = _ := fun y => y.ext.cell z0
                  have y1 : ∀ y : Up wr, y.u.cell? _ = _ := fun y => y.ext.cell z1
                  have y2 : ∀ y : Up wr, y.u.cell? _ = _ := fun y => y.ext.cell z2
                  have y3 : ∀ y : Up wr, y.u.cell? _ = _ := fun y => y.ext.cell zb'
                  have y4 : ∀ y : Up wr, y.u.cell? _ = _ := fun y => y.ext.cell zi'
                  by_cases hw : x.wt = wI
                  · have e1 : (x.wt == wI) = true := by rw [hw]; exact beq_self_eq_true _
                    have HWE := Lib.hid hw
                    clear hw
                    by_cases hc : x.cls = (q : Int)
                    · have e2 : (x.cls == (q : Int)) = true := by rw [hc]; exact beq_self_eq_true _
                      have HCE := Lib.hid hc
                      clear hc
                      cases hwt : wanted x nm with
                      | false =>
                        have HWT := Lib.hid hwt
                        rw [hwt] at HCW
                        clear hwt
                        have HO5 : Hid (∀ y : Up wr, OutAt w y.u _ (L3 ++ ordAt (fx.take (i + 1)) wI (q : Int) (nm, inn))) := Lib.hid fun y => ⟨by rw [HT4.out, if_neg (by rintro ⟨_, _, h, _⟩; rw [HWT.out] at h; cases h), List.append_nil]; exact HO.out.1.ext y.ext, HO.out.2.trans y.ext⟩
                        go_wp2
                        refine wp_quietU (by kernel_rfl) (by kernel_rfl) ?_
                        repeat (go_big_quiet_step ((first | (go_at_call 36; exact HCW.out _) | (go_at_call 163; exact HCH.out _))))
                        refine wpQuiet_nil ?_
                        rintro _ ⟨y, rfl⟩
                        have HO6 := Lib.hid (HO5.out y)
                        clear y0 y1 y2 y3 y4 HCW HCH HO5 HO z0 z1 z2 zb' zi'
                        go_wp2
                        go_roundw
                        case rel => exact ⟨i + 1, by omega, by go_num, HO6.out⟩
                        case measure => simp [intOf]; omega
                      | true =>
                        have HWT := Lib.hid hwt
                        rw [hwt] at HCW
                        clear hwt
                        cases hin : decide ((q : Int) ∈ inn) with
                        | true =>
                          have HIN := Lib.hid (of_decide_eq_true hin)
                          rw [hin] at HCH
                          clear hin
                          have HO5 : Hid (∀ y : Up wr, OutAt w y.u _ (L3 ++ ordAt (fx.take (i + 1)) wI (q : Int) (nm, inn))) := Lib.hid fun y => ⟨by rw [HT4.out, if_neg (by rintro ⟨_, _, _, h⟩; exact h HIN.out), List.append_nil]; exact HO.out.1.ext y.ext, HO.out.2.trans y.ext⟩
                          go_wp2
                          refine wp_quietU (by kernel_rfl) (by kernel_rfl) ?_
                          repeat (go_big_quiet_step ((first | (go_at_call 36; exact HCW.out _) | (go_at_call 163; exact HCH.out _))))
                          refine wpQuiet_nil ?_
                          rintro _ ⟨y, rfl⟩
                          have HO6 := Lib.hid (HO5.out y)
                          clear y0 y1 y2 y3 y4 HCW HCH HO5 HO z0 z1 z2 zb' zi'
                          go_wp2
                          go_roundw
                          case rel => exact ⟨i + 1, by omega, by go_num, HO6.out⟩
                          case measure => simp [intOf]; omega
                        | false =>
                          have HIN := Lib.hid (of_decide_eq_false hin)
                          rw [hin] at HCH
                          clear hin
                          have HT5 : Hid (L3 ++ ordAt (fx.take (i + 1)) wI (q : Int) (nm, inn) = (L3 ++ ordAt (fx.take i) wI (q : Int) (nm, inn)) ++ [⟨nm, (q : Int), wI⟩]) := Lib.hid (by rw [HT4.out, if_pos ⟨HWE.out, HCE.out, HWT.out, HIN.out⟩, List.append_assoc])
                          go_wp2
                          refine wp_quietU (by kernel_rfl) (by kernel_rfl) ?_
                          repeat (go_big_quiet_step ((first | (go_at_call 36; exact HCW.out _) | (go_at_call 163; exact HCH.out _))))
                          refine wpQuiet_nil ?_
                          rintro _ ⟨y, rfl⟩
                          have HO5 := Lib.hid (HO.out.1.ext y.ext)
                          have HE5 := Lib.hid (HO.out.2.trans y.ext)
                          have p3 := y3 y
                          clear y0 y1 y2 y3 y4 HCW HCH HO z0 z1 z2 zb' zi' HT4
                          go_wp2_with (with_reducible refine stop_lit ?_)
                          refine Stop.go ?_
                          refine ev_appGp ⟨nm, (q : Int), wI⟩ rfl (fun _ => rfl) (fun _ => rfl) HO5.out HE5.out rfl HLN4.out ?_
                          intro u v5 w5 ho5 he5 _ _
                          have HO6 : Hid (OutAt w w5 v5 (L3 ++ ordAt (fx.take (i + 1)) wI (q : Int) (nm, inn))) := Lib.hid ⟨by rw [HT5.out]; exact ho5, he5⟩
                          clear ho5 he5 HO5 HE5 p3
                          go_wp2
                          go_roundw
                          case rel => exact ⟨i + 1, by omega, by go_num, HO6.out⟩
                          case measure => simp [intOf]; omega
                    · have e2 : (x.cls == (q : Int)) = false := beq_eq_false_iff_ne.2 hc
                      have HCE := Lib.hid hc
                      clear hc
                      have HO5 : Hid (∀ y : Up wr, OutAt w y.u _ (L3 ++ ordAt (fx.take (i + 1)) wI (q : Int) (nm, inn))) := Lib.hid fun y => ⟨by rw [HT4.out, if_neg (by rintro ⟨_, h, _⟩; exact HCE.out h), List.append_nil]; exact HO.out.1.ext y.ext, HO.out.2.trans y.ext⟩
                      go_wp2
                      refine wp_quietU (by kernel_rfl) (by kernel_rfl) ?_
                      repeat (go_big_quiet_step ((first | (go_at_call 36; exact HCW.out _) | (go_at_call 163; exact HCH.out _))))
                      refine wpQuiet_nil ?_
                      rintro _ ⟨y, rfl⟩
                      have HO6 := Lib.hid (HO5.out y)
                      clear y0 y1 y2 y3 y4 HCW HCH HO5 HO z0 z1 z2 zb' zi'
                      go_wp2
                      go_roundw
                      case rel => exact ⟨i + 1, by omega, by go_num, HO6.out⟩
                      case measure => simp [intOf]; omega
                  · have e1 : (x.wt == wI) = false := beq_eq_false_iff_ne.2 hw
                    have HWE := Lib.hid hw
                    clear hw
                    have HO5 : Hid (∀ y : Up wr, OutAt w y.u _ (L3 ++ ordAt (fx.take (i + 1)) wI (q : Int) (nm, inn))) := Lib.hid fun y => ⟨by rw [HT4.out, if_neg (by rintro ⟨h, _⟩; exact HWE.out h), List.append_nil]; exact HO.out.1.ext y.ext, HO.out.2.trans y.ext⟩
                    go_wp2
                    refine wp_quietU (by kernel_rfl) (by kernel_rfl) ?_
                    repeat (go_big_quiet_step ((first | (go_at_call 36; exact HCW.out _) | (go_at_call 163; exact HCH.out _))))
                    refine wpQuiet_nil ?_
                    rintro _ ⟨y, rfl⟩
                    have HO6 := Lib.hid (HO5.out y)
                    clear y0 y1 y2 y3 y4 HCW HCH HO5 HO z0 z1 z2 zb' zi'
                    go_wp2
                    go_roundw
                    case rel => exact ⟨i + 1, by omega, by go_num, HO6.out⟩
                    case measure => simp [intOf]; omega
                · have HO5 : Hid (OutAt w wr _ (L2 ++ (bs.take (b + 1)).flatMap (fun p => ordAt fx wI (q : Int) p))) := Lib.hid (by rw [HT3'.out]; have := HO.out; rw [List.take_of_length_le (by omega)] at this; exact this)
                  clear HO
                  go_wp2
                  go_roundw
                  case rel => exact ⟨b + 1, by omega, by go_num, HO5.out⟩
                  case measure => simp [intOf]; omega
            · have HO5 : Hid (OutAt w wr _ (L1 ++ (up30.take (q + 1)).flatMap (fun c => P3 fx bs wI c))) := Lib.hid (by rw [HT2'.out]; have := HO.out; rw [flat_all (by rw [HN.out]; omega)] at this; exact this)
              clear HO
              go_wp2
              go_roundw
              case rel => exact ⟨q + 1, by omega, by go_num, HO5.out⟩
              case measure => simp [intOf]; omega
        · have HO5 : Hid (OutAt w wr _ ((down9.take (m + 1)).flatMap fun w => P2 fx bs w)) := Lib.hid (by rw [HT1.out]; have := HO.out; rw [flat_all (by show 30 ≤ q; omega)] at this; exact this)
          have HW2 : Hid (wI - 1 = 9 - ((m + 1 : Nat) : Int)) := Lib.hid (by have := HW.out; omega)
          clear HO
          go_wp2
          go_roundw
          case rel => exact ⟨m + 1, wI - 1, by omega, by omega, by omega, HW2.out, by go_num, HO5.out⟩
          case measure => simp [intOf]; omega
    · have HR : Hid (OutAt w wr _ (ordL fx bs)) := Lib.hid (by rw [ordL_P]; have := HO.out; rw [flat_all (by show 9 ≤ m; have := HW.out; omega)] at this; exact this)
      clear HO
      go_wp2
      go_ret
      exact ⟨_, rfl, HR.out.1, HR.out.2⟩
end Go.Proofs.YtgibdafkidkahaaGreatDoor
