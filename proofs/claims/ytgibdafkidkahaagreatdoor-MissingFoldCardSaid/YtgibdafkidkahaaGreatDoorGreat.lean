/- Derived: walks: what is too great for the statements: some bool comes back. -/
import Derived.Test.YtgibdafkidkahaaGreatDoorFxB
set_option linter.unusedVariables false
set_option linter.unusedSimpArgs false
namespace Go.Proofs.YtgibdafkidkahaaGreatDoor
open Go.RowKit

/-- Some bool comes back; nothing that was there turns. -/
def RetB (w : World) (e : Ending) (w' : World) : Prop := ∃ b : Bool, e = .returned (.bool b) ∧ Ext w w'
theorem ref26_Great (l : List Br) (A : Option Addr) (c : Nat) (w : World) (hl : Rd elBr w A l) :
    Calls Tryz.prog 122 #[.slice A l.length c, .slice none 0 0] w (RetB w) := by
  have hm := hl.1
  go_enter Tryz.func122, Tryz.ntmps122
  go_wp2
  go_loop [5] (fun i => ∃ k : Nat, k ≤ l.length ∧ i = .int .i64 k) (fun i => l.length - (intOf i).toNat)
  case atStart => exact ⟨0, Nat.zero_le _, rfl⟩
  case round =>
    obtain ⟨k, hk, rfl⟩ := hrel
    by_cases hlt : k < l.length
    · have hx : l[k]? = some l[k] := List.getElem?_eq_getElem hlt
      generalize l[k] = x at hx
      obtain ⟨ad, rfl, h0, h1, h2⟩ := hl.br hx
      clear hx hl
      by_cases a1 : 100 < x.name.size
      · go_wp2
        go_ret
        exact ⟨_, rfl, Ext.refl _⟩
      · by_cases a2 : 100 < x.frm.size
        · go_wp2
          go_ret
          exact ⟨_, rfl, Ext.refl _⟩
        · go_wp2
          go_round
          case rel => exact ⟨k + 1, by omega, by go_num⟩
          case measure => simp [intOf]; omega
    · by_cases a1 : 20 < l.length
      · go_wp2
        go_ret
        exact ⟨_, rfl, Ext.refl _⟩
      · go_wp2
        go_ret
        exact ⟨_, rfl, Ext.refl _⟩
set_option maxRecDepth 100000 in
set_option maxHeartbeats 4000000 in
theorem ref29_Great (g : Lg) (v : Value) (w : World) (hv : LgV w v g) :
    Calls Tryz.prog 46 #[v] w (RetB w) := by
  obtain ⟨A0, c0, A1, c1, A2, c2, rfl, h0, h1, h2, r0, r1, r2⟩ := hv.ex
  have hm0 := r0.1
  have hm2 := r2.1
  go_enter Tryz.func46, Tryz.ntmps46
  go_wp2_with (with_reducible refine stop_box ?_)
  refine Stop.go ?_
  refine ev_box3 (c0 := .slice A0 g.known.length c0) (c1 := .slice A1 g.brs.length c1) (c2 := .slice A2 g.evs.length c2) rfl ?_
  intro g1 w1 hb_g1 he hg_g1 k0 k1 k2
  have HE := Lib.hid he
  have R0 := Lib.hid (r0.ext he)
  have R1 := Lib.hid (r1.ext he)
  have R2 := Lib.hid (r2.ext he)
  clear he r0 r1 r2 hv hb_g1 hg_g1
  go_wp2
  go_loop [3] (fun i => ∃ k : Nat, k ≤ g.known.length ∧ i = .int .i64 k) (fun i => g.known.length - (intOf i).toNat)
  case atStart => exact ⟨0, Nat.zero_le _, rfl⟩
  case round =>
    obtain ⟨k, hk, rfl⟩ := hrel
    by_cases hlt : k < g.known.length
    · have hx : g.known[k]? = some g.known[k] := List.getElem?_eq_getElem hlt
      generalize g.known[k] = x at hx
      obtain ⟨ad, rfl, q0, q1⟩ := R0.out.kn hx
      clear hx
      by_cases a1 : 100 < x.chg.size
      · go_wp2
        go_ret
        exact ⟨_, rfl, HE.out⟩
      · go_wp2
        go_round
        case rel => exact ⟨k + 1, by omega, by go_num⟩
        case measure => simp [intOf]; omega
    · go_wp2
      go_loop [4] (fun i => ∃ k : Nat, k ≤ g.evs.length ∧ i = .int .i64 k) (fun i => g.evs.length - (intOf i).toNat)
      case atStart => exact ⟨0, Nat.zero_le _, rfl⟩
      case round =>
        obtain ⟨k, hk, rfl⟩ := hrel
        by_cases hlt : k < g.evs.length
        · have hx : g.evs[k]? = some g.evs[k] := List.getElem?_eq_getElem hlt
          generalize g.evs[k] = own at hx
          obtain ⟨ad, D, cD, rfl, q0, hcD, q1⟩ := R2.out.sub hx
          have ho := q1.1
          have Q1 := Lib.hid q1
          clear hx q1
          by_cases a8 : 8 < own.length
          · by_cases a40 : own.length ≤ 40
            · go_wp2
              go_ret
              exact ⟨_, rfl, HE.out⟩
            · by_cases a50 : 50 < own.length
              · go_wp2
                go_ret
                exact ⟨_, rfl, HE.out⟩
              · go_wp2
                go_loop [5] (fun i => ∃ t : Nat, t ≤ own.length ∧ i = .int .i64 t) (fun i => own.length - (intOf i).toNat)
                case atStart => exact ⟨0, Nat.zero_le _, rfl⟩
                case round =>
                  obtain ⟨t, ht, rfl⟩ := hrel
                  by_cases hlt2 : t < own.length
                  · have hy : own[t]? = some own[t] := List.getElem?_eq_getElem hlt2
                    generalize own[t] = y at hy
                    obtain ⟨ad2, rfl, p0, p1⟩ := Q1.out.ev hy
                    clear hy
                    by_cases a1 : 100 < y.chg.size
                    · go_wp2
                      go_ret
                      exact ⟨_, rfl, HE.out⟩
                    · go_wp2
                      go_round
                      case rel => exact ⟨t + 1, by omega, by go_num⟩
                      case measure => simp [intOf]; omega
                  · go_wp2
                    go_round
                    case rel => exact ⟨k + 1, by omega, by go_num⟩
                    case measure => simp [intOf]; omega
          · have a50 : ¬ 50 < own.length := by omega
            go_wp2
            go_loop [5] (fun i => ∃ t : Nat, t ≤ own.length ∧ i = .int .i64 t) (fun i => own.length - (intOf i).toNat)
            case atStart => exact ⟨0, Nat.zero_le _, rfl⟩
            case round =>
              obtain ⟨t, ht, rfl⟩ := hrel
              by_cases hlt2 : t < own.length
              · have hy : own[t]? = some own[t] := List.getElem?_eq_getElem hlt2
                generalize own[t] = y at hy
                obtain ⟨ad2, rfl, p0, p1⟩ := Q1.out.ev hy
                clear hy
                by_cases a1 : 100 < y.chg.size
                · go_wp2
                  go_ret
                  exact ⟨_, rfl, HE.out⟩
                · go_wp2
                  go_round
                  case rel => exact ⟨t + 1, by omega, by go_num⟩
                  case measure => simp [intOf]; omega
              · go_wp2
                go_round
                case rel => exact ⟨k + 1, by omega, by go_num⟩
                case measure => simp [intOf]; omega
        · have HG := Lib.hid (ref26_Great g.brs A1 c1 w1 R1.out)
          by_cases a40 : 40 < g.known.length
          · by_cases a20 : 20 < g.evs.length
            · go_wp2
              go_ret
              exact ⟨_, rfl, HE.out⟩
            · go_wp2
              go_ret
              exact ⟨_, rfl, HE.out⟩
          · by_cases a20 : 20 < g.evs.length
            · go_wp2_with fail
              refine HG.out.mono ?_
              rintro e w2 ⟨b, rfl, he2⟩
              replace k2 := he2.cell k2
              have HE2 := Lib.hid (HE.out.trans he2)
              clear he2 HG
              cases b with
              | true => go_wp2; go_ret; exact ⟨_, rfl, HE2.out⟩
              | false => go_wp2; go_ret; exact ⟨_, rfl, HE2.out⟩
            · go_wp2_with fail
              refine HG.out.mono ?_
              rintro e w2 ⟨b, rfl, he2⟩
              replace k2 := he2.cell k2
              have HE2 := Lib.hid (HE.out.trans he2)
              clear he2 HG
              cases b with
              | true => go_wp2; go_ret; exact ⟨_, rfl, HE2.out⟩
              | false => go_wp2; go_ret; exact ⟨_, rfl, HE2.out⟩
set_option maxRecDepth 100000 in
set_option maxHeartbeats 4000000 in
theorem ref34_Great (g : Lg) (fx : List Fx) (v : Value) (A : Option Addr) (c : Nat) (w : World) (hv : LgV w v g) (hf : Rd elFx w A fx) :
    Calls Tryz.prog 15 #[v, .slice A fx.length c] w (RetB w) := by
  obtain ⟨A0, c0, A1, c1, A2, c2, rfl, h0, h1, h2, r0, r1, r2⟩ := hv.ex
  have hm0 := hf.1
  go_enter Tryz.func15, Tryz.ntmps15
  go_wp2_with (with_reducible refine stop_box ?_)
  refine Stop.go ?_
  refine ev_box3 (c0 := .slice A0 g.known.length c0) (c1 := .slice A1 g.brs.length c1) (c2 := .slice A2 g.evs.length c2) rfl ?_
  intro g1 w1 hb_g1 he hg_g1 k0 k1 k2
  have HE := Lib.hid he
  have HV := Lib.hid (hv.ext he)
  have RF := Lib.hid (hf.ext he)
  clear he r0 r1 r2 hv hf hb_g1 hg_g1
  go_wp2
  go_loop [5] (fun i => ∃ k : Nat, k ≤ fx.length ∧ i = .int .i64 k) (fun i => fx.length - (intOf i).toNat)
  case atStart => exact ⟨0, Nat.zero_le _, rfl⟩
  case round =>
    obtain ⟨k, hk, rfl⟩ := hrel
    by_cases hlt : k < fx.length
    · have hx : fx[k]? = some fx[k] := List.getElem?_eq_getElem hlt
      generalize fx[k] = x at hx
      obtain ⟨ad, B, cB, rfl, q0, q1, q2, hcB, qr⟩ := RF.out.fx hx
      have ho := qr.1
      have QR := Lib.hid qr
      clear hx qr q0 q1
      by_cases a20 : 20 < x.brs.length
      · go_wp2
        go_ret
        exact ⟨_, rfl, HE.out⟩
      · go_wp2
        go_loop [6] (fun i => ∃ t : Nat, t ≤ x.brs.length ∧ i = .int .i64 t) (fun i => x.brs.length - (intOf i).toNat)
        case atStart => exact ⟨0, Nat.zero_le _, rfl⟩
        case round =>
          obtain ⟨t, ht, rfl⟩ := hrel
          by_cases hlt2 : t < x.brs.length
          · have hy : x.brs[t]? = some x.brs[t] := List.getElem?_eq_getElem hlt2
            generalize x.brs[t] = y at hy
            obtain ⟨ad2, rfl, p0⟩ := QR.out.str hy
            clear hy
            by_cases a1 : 100 < y.size
            · go_wp2
              go_ret
              exact ⟨_, rfl, HE.out⟩
            · go_wp2
              go_round
              case rel => exact ⟨t + 1, by omega, by go_num⟩
              case measure => simp [intOf]; omega
          · go_wp2
            go_round
            case rel => exact ⟨k + 1, by omega, by go_num⟩
            case measure => simp [intOf]; omega
    · have HG := Lib.hid (ref29_Great g _ w1 HV.out)
      by_cases a10 : 10 < fx.length
      · by_cases a30 : fx.length ≤ 30
        · have a40 : ¬ 40 < fx.length := by omega
          go_wp2_with fail
          refine HG.out.mono ?_
          rintro e w2 ⟨b, rfl, he2⟩
          have HE2 := Lib.hid (HE.out.trans he2)
          clear he2 HG
          cases b with
          | true => go_wp2; go_ret; exact ⟨_, rfl, HE2.out⟩
          | false => go_wp2; go_ret; exact ⟨_, rfl, HE2.out⟩
        · by_cases a40 : 40 < fx.length
          · go_wp2_with fail
            refine HG.out.mono ?_
            rintro e w2 ⟨b, rfl, he2⟩
            have HE2 := Lib.hid (HE.out.trans he2)
            clear he2 HG
            cases b with
            | true => go_wp2; go_ret; exact ⟨_, rfl, HE2.out⟩
            | false => go_wp2; go_ret; exact ⟨_, rfl, HE2.out⟩
          · go_wp2_with fail
            refine HG.out.mono ?_
            rintro e w2 ⟨b, rfl, he2⟩
            have HE2 := Lib.hid (HE.out.trans he2)
            clear he2 HG
            cases b with
            | true => go_wp2; go_ret; exact ⟨_, rfl, HE2.out⟩
            | false => go_wp2; go_ret; exact ⟨_, rfl, HE2.out⟩
      · have a40 : ¬ 40 < fx.length := by omega
        go_wp2_with fail
        refine HG.out.mono ?_
        rintro e w2 ⟨b, rfl, he2⟩
        have HE2 := Lib.hid (HE.out.trans he2)
        clear he2 HG
        cases b with
        | true => go_wp2; go_ret; exact ⟨_, rfl, HE2.out⟩
        | false => go_wp2; go_ret; exact ⟨_, rfl, HE2.out⟩
end Go.Proofs.YtgibdafkidkahaaGreatDoor
