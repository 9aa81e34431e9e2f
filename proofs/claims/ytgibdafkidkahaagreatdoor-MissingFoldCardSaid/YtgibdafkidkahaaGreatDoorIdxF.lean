/- Derived: walks: slices.IndexFunc and ContainsFunc. -/
import Derived.Test.YtgibdafkidkahaaGreatDoorBase
set_option linter.unusedVariables false
set_option linter.unusedSimpArgs false
namespace Go.Proofs.YtgibdafkidkahaaGreatDoor
open Go.RowKit

/-- What a closure is known to do: called with an element, in whatever world comes of w, it answers by a test. -/
def Tests {α : Type} (F : Nat) (caps : Array Value) (w : World) (arg : α → Value) (p : α → Bool) : Prop :=
  ∀ x w', Ext w w' → Calls Tryz.prog F (#[arg x] ++ caps) w' fun e w'' => e = .returned (.bool (p x)) ∧ Ext w' w''
theorem idxP_any {α : Type} (p : α → Bool) (l : List α) : decide (0 ≤ idxP p l) = l.any p := by
  cases h : l.any p with
  | false => rw [decide_eq_false]; have := idxP_neg.2 h; omega
  | true => rw [decide_eq_true]; rcases Int.lt_or_le (idxP p l) 0 with h1 | h1; · rw [idxP_neg.1 h1] at h; cases h
            · exact h1

set_option maxHeartbeats 400000 in
theorem IndexFunc_Br (l : List Br) (A : Option Addr) (c F : Nat) (caps : Array Value) (p : Br → Bool) (w : World) (hl : Rd elBr w A l)
    (hF : ∀ args w, (callFunc F args).run Tryz.prog w = .ok (.enter F args) w) (hp : Tests F caps w (fun x : Br => .agg #[.string x.name, .string x.frm, .int .i64 x.at_]) p) :
    Calls Tryz.prog 104 #[.slice A l.length c, .func (.func F) #[] caps] w fun e w' => e = .returned (.int .i64 (idxP p l)) ∧ Ext w w' := by
  have hm := hl.1
  have HP := Lib.hid hp
  clear hp
  go_enter Tryz.func104, Tryz.ntmps104
  go_wp2
  go_loopw [8] (fun i wr => ∃ k : Nat, k ≤ l.length ∧ i = .int .i64 k ∧ Hid (∀ j x, j < k → l[j]? = some x → p x = false) ∧ Hid (Ext w wr)) (fun i _ => l.length - (intOf i).toNat)
  case atStart => exact ⟨0, Nat.zero_le _, rfl, fun j x hj => absurd hj (by omega), Ext.refl w⟩
  case round =>
    obtain ⟨k, hk, rfl, hn, hE⟩ := hrel
    by_cases hlt : k < l.length
    · have hx : l[k]? = some l[k] := List.getElem?_eq_getElem hlt
      generalize l[k] = x at hx
      obtain ⟨ad, rfl, h0, h1, h2⟩ := (hl.ext hE.out).br hx
      have HX := Lib.hid hx
      clear hx hl
      by_cases hpx : p x = true
      · go_wp2_with fail
        refine (HP.out x wr hE.out).mono ?_
        rintro e w2 ⟨rfl, hE2⟩
        have hE3 := Lib.hid (hE.out.trans hE2)
        clear hE hE2
        go_wp2
        go_ret
        exact ⟨ret_int (idxP_found HX.out hn.out hpx).symm, hE3.out⟩
      · have hpx := Bool.eq_false_iff.2 hpx
        go_wp2_with fail
        refine (HP.out x wr hE.out).mono ?_
        rintro e w2 ⟨rfl, hE2⟩
        have hE3 := Lib.hid (hE.out.trans hE2)
        clear hE hE2
        go_wp2
        go_roundw
        case rel =>
          refine ⟨k + 1, by omega, by go_num, fun j y hj hy => ?_, hE3.out⟩
          rcases Nat.lt_succ_iff_lt_or_eq.1 hj with h | rfl
          · exact hn.out j y h hy
          · rw [HX.out] at hy; cases hy; exact hpx
        case measure => simp [intOf]; omega
    · go_wp2
      go_ret
      refine ⟨ret_int (idxP_none fun j y hy => hn.out j y ?_ hy).symm, hE.out⟩
      have := (List.getElem?_eq_some_iff.1 hy).1
      omega

theorem ContainsFunc_Br (l : List Br) (A : Option Addr) (c F : Nat) (caps : Array Value) (p : Br → Bool) (w : World) (hl : Rd elBr w A l)
    (hF : ∀ args w, (callFunc F args).run Tryz.prog w = .ok (.enter F args) w) (hp : Tests F caps w (fun x : Br => .agg #[.string x.name, .string x.frm, .int .i64 x.at_]) p) :
    Calls Tryz.prog 248 #[.slice A l.length c, .func (.func F) #[] caps] w fun e w' => e = .returned (.bool (l.any p)) ∧ Ext w w' := by
  go_enter Tryz.func248, Tryz.ntmps248
  go_wp2_with fail
  refine (IndexFunc_Br l A c F caps p w hl hF hp).mono ?_
  rintro e w2 ⟨rfl, hE2⟩
  have hb : decide (0 ≤ idxP p l) = l.any p := idxP_any p l
  have HE := Lib.hid hE2
  clear hE2
  go_wp2
  go_ret
  exact ⟨rfl, HE.out⟩


set_option maxHeartbeats 400000 in
theorem IndexFunc_Int (l : List Int) (A : Option Addr) (c F : Nat) (caps : Array Value) (p : Int → Bool) (w : World) (hl : Rd elInt w A l)
    (hF : ∀ args w, (callFunc F args).run Tryz.prog w = .ok (.enter F args) w) (hp : Tests F caps w (fun x : Int => .int .i64 x) p) :
    Calls Tryz.prog 188 #[.slice A l.length c, .func (.func F) #[] caps] w fun e w' => e = .returned (.int .i64 (idxP p l)) ∧ Ext w w' := by
  have hm := hl.1
  have HP := Lib.hid hp
  clear hp
  go_enter Tryz.func188, Tryz.ntmps188
  go_wp2
  go_loopw [8] (fun i wr => ∃ k : Nat, k ≤ l.length ∧ i = .int .i64 k ∧ Hid (∀ j x, j < k → l[j]? = some x → p x = false) ∧ Hid (Ext w wr)) (fun i _ => l.length - (intOf i).toNat)
  case atStart => exact ⟨0, Nat.zero_le _, rfl, fun j x hj => absurd hj (by omega), Ext.refl w⟩
  case round =>
    obtain ⟨k, hk, rfl, hn, hE⟩ := hrel
    by_cases hlt : k < l.length
    · have hx : l[k]? = some l[k] := List.getElem?_eq_getElem hlt
      generalize l[k] = x at hx
      obtain ⟨ad, rfl, h0⟩ := (hl.ext hE.out).int hx
      have HX := Lib.hid hx
      clear hx hl
      by_cases hpx : p x = true
      · go_wp2_with fail
        refine (HP.out x wr hE.out).mono ?_
        rintro e w2 ⟨rfl, hE2⟩
        have hE3 := Lib.hid (hE.out.trans hE2)
        clear hE hE2
        go_wp2
        go_ret
        exact ⟨ret_int (idxP_found HX.out hn.out hpx).symm, hE3.out⟩
      · have hpx := Bool.eq_false_iff.2 hpx
        go_wp2_with fail
        refine (HP.out x wr hE.out).mono ?_
        rintro e w2 ⟨rfl, hE2⟩
        have hE3 := Lib.hid (hE.out.trans hE2)
        clear hE hE2
        go_wp2
        go_roundw
        case rel =>
          refine ⟨k + 1, by omega, by go_num, fun j y hj hy => ?_, hE3.out⟩
          rcases Nat.lt_succ_iff_lt_or_eq.1 hj with h | rfl
          · exact hn.out j y h hy
          · rw [HX.out] at hy; cases hy; exact hpx
        case measure => simp [intOf]; omega
    · go_wp2
      go_ret
      refine ⟨ret_int (idxP_none fun j y hy => hn.out j y ?_ hy).symm, hE.out⟩
      have := (List.getElem?_eq_some_iff.1 hy).1
      omega

theorem ContainsFunc_Int (l : List Int) (A : Option Addr) (c F : Nat) (caps : Array Value) (p : Int → Bool) (w : World) (hl : Rd elInt w A l)
    (hF : ∀ args w, (callFunc F args).run Tryz.prog w = .ok (.enter F args) w) (hp : Tests F caps w (fun x : Int => .int .i64 x) p) :
    Calls Tryz.prog 241 #[.slice A l.length c, .func (.func F) #[] caps] w fun e w' => e = .returned (.bool (l.any p)) ∧ Ext w w' := by
  go_enter Tryz.func241, Tryz.ntmps241
  go_wp2_with fail
  refine (IndexFunc_Int l A c F caps p w hl hF hp).mono ?_
  rintro e w2 ⟨rfl, hE2⟩
  have hb : decide (0 ≤ idxP p l) = l.any p := idxP_any p l
  have HE := Lib.hid hE2
  clear hE2
  go_wp2
  go_ret
  exact ⟨rfl, HE.out⟩


set_option maxHeartbeats 400000 in
theorem IndexFunc_Str (l : List Str) (A : Option Addr) (c F : Nat) (caps : Array Value) (p : Str → Bool) (w : World) (hl : Rd elStr w A l)
    (hF : ∀ args w, (callFunc F args).run Tryz.prog w = .ok (.enter F args) w) (hp : Tests F caps w (fun x : Str => .string x) p) :
    Calls Tryz.prog 217 #[.slice A l.length c, .func (.func F) #[] caps] w fun e w' => e = .returned (.int .i64 (idxP p l)) ∧ Ext w w' := by
  have hm := hl.1
  have HP := Lib.hid hp
  clear hp
  go_enter Tryz.func217, Tryz.ntmps217
  go_wp2
  go_loopw [8] (fun i wr => ∃ k : Nat, k ≤ l.length ∧ i = .int .i64 k ∧ Hid (∀ j x, j < k → l[j]? = some x → p x = false) ∧ Hid (Ext w wr)) (fun i _ => l.length - (intOf i).toNat)
  case atStart => exact ⟨0, Nat.zero_le _, rfl, fun j x hj => absurd hj (by omega), Ext.refl w⟩
  case round =>
    obtain ⟨k, hk, rfl, hn, hE⟩ := hrel
    by_cases hlt : k < l.length
    · have hx : l[k]? = some l[k] := List.getElem?_eq_getElem hlt
      generalize l[k] = x at hx
      obtain ⟨ad, rfl, h0⟩ := (hl.ext hE.out).str hx
      have HX := Lib.hid hx
      clear hx hl
      by_cases hpx : p x = true
      · go_wp2_with fail
        refine (HP.out x wr hE.out).mono ?_
        rintro e w2 ⟨rfl, hE2⟩
        have hE3 := Lib.hid (hE.out.trans hE2)
        clear hE hE2
        go_wp2
        go_ret
        exact ⟨ret_int (idxP_found HX.out hn.out hpx).symm, hE3.out⟩
      · have hpx := Bool.eq_false_iff.2 hpx
        go_wp2_with fail
        refine (HP.out x wr hE.out).mono ?_
        rintro e w2 ⟨rfl, hE2⟩
        have hE3 := Lib.hid (hE.out.trans hE2)
        clear hE hE2
        go_wp2
        go_roundw
        case rel =>
          refine ⟨k + 1, by omega, by go_num, fun j y hj hy => ?_, hE3.out⟩
          rcases Nat.lt_succ_iff_lt_or_eq.1 hj with h | rfl
          · exact hn.out j y h hy
          · rw [HX.out] at hy; cases hy; exact hpx
        case measure => simp [intOf]; omega
    · go_wp2
      go_ret
      refine ⟨ret_int (idxP_none fun j y hy => hn.out j y ?_ hy).symm, hE.out⟩
      have := (List.getElem?_eq_some_iff.1 hy).1
      omega

theorem ContainsFunc_Str (l : List Str) (A : Option Addr) (c F : Nat) (caps : Array Value) (p : Str → Bool) (w : World) (hl : Rd elStr w A l)
    (hF : ∀ args w, (callFunc F args).run Tryz.prog w = .ok (.enter F args) w) (hp : Tests F caps w (fun x : Str => .string x) p) :
    Calls Tryz.prog 156 #[.slice A l.length c, .func (.func F) #[] caps] w fun e w' => e = .returned (.bool (l.any p)) ∧ Ext w w' := by
  go_enter Tryz.func156, Tryz.ntmps156
  go_wp2_with fail
  refine (IndexFunc_Str l A c F caps p w hl hF hp).mono ?_
  rintro e w2 ⟨rfl, hE2⟩
  have hb : decide (0 ≤ idxP p l) = l.any p := idxP_any p l
  have HE := Lib.hid hE2
  clear hE2
  go_wp2
  go_ret
  exact ⟨rfl, HE.out⟩


set_option maxHeartbeats 400000 in
theorem IndexFunc_Kn (l : List Kn) (A : Option Addr) (c F : Nat) (caps : Array Value) (p : Kn → Bool) (w : World) (hl : Rd elKn w A l)
    (hF : ∀ args w, (callFunc F args).run Tryz.prog w = .ok (.enter F args) w) (hp : Tests F caps w (fun x : Kn => .agg #[.string x.chg, .int .i64 x.cls]) p) :
    Calls Tryz.prog 210 #[.slice A l.length c, .func (.func F) #[] caps] w fun e w' => e = .returned (.int .i64 (idxP p l)) ∧ Ext w w' := by
  have hm := hl.1
  have HP := Lib.hid hp
  clear hp
  go_enter Tryz.func210, Tryz.ntmps210
  go_wp2
  go_loopw [8] (fun i wr => ∃ k : Nat, k ≤ l.length ∧ i = .int .i64 k ∧ Hid (∀ j x, j < k → l[j]? = some x → p x = false) ∧ Hid (Ext w wr)) (fun i _ => l.length - (intOf i).toNat)
  case atStart => exact ⟨0, Nat.zero_le _, rfl, fun j x hj => absurd hj (by omega), Ext.refl w⟩
  case round =>
    obtain ⟨k, hk, rfl, hn, hE⟩ := hrel
    by_cases hlt : k < l.length
    · have hx : l[k]? = some l[k] := List.getElem?_eq_getElem hlt
      generalize l[k] = x at hx
      obtain ⟨ad, rfl, h0, h1⟩ := (hl.ext hE.out).kn hx
      have HX := Lib.hid hx
      clear hx hl
      by_cases hpx : p x = true
      · go_wp2_with fail
        refine (HP.out x wr hE.out).mono ?_
        rintro e w2 ⟨rfl, hE2⟩
        have hE3 := Lib.hid (hE.out.trans hE2)
        clear hE hE2
        go_wp2
        go_ret
        exact ⟨ret_int (idxP_found HX.out hn.out hpx).symm, hE3.out⟩
      · have hpx := Bool.eq_false_iff.2 hpx
        go_wp2_with fail
        refine (HP.out x wr hE.out).mono ?_
        rintro e w2 ⟨rfl, hE2⟩
        have hE3 := Lib.hid (hE.out.trans hE2)
        clear hE hE2
        go_wp2
        go_roundw
        case rel =>
          refine ⟨k + 1, by omega, by go_num, fun j y hj hy => ?_, hE3.out⟩
          rcases Nat.lt_succ_iff_lt_or_eq.1 hj with h | rfl
          · exact hn.out j y h hy
          · rw [HX.out] at hy; cases hy; exact hpx
        case measure => simp [intOf]; omega
    · go_wp2
      go_ret
      refine ⟨ret_int (idxP_none fun j y hy => hn.out j y ?_ hy).symm, hE.out⟩
      have := (List.getElem?_eq_some_iff.1 hy).1
      omega


end Go.Proofs.YtgibdafkidkahaaGreatDoor
