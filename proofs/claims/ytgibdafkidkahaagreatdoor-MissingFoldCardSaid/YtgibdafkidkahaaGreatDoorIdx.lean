/- Derived: walks: the index of a branch, the class of a change. -/
import Derived.Test.YtgibdafkidkahaaGreatDoorIdxF
import Derived.Outline
set_option linter.unusedVariables false
set_option linter.unusedSimpArgs false
namespace Go.Proofs.YtgibdafkidkahaaGreatDoor
open Go.RowKit

set_option maxHeartbeats 400000 in
theorem ref26_Index (l : List Br) (nm : Str) (A : Option Addr) (c : Nat) (w : World) (hl : Rd elBr w A l) :
    Calls Tryz.prog 100 #[.slice A l.length c, .string nm] w fun e w' => e = .returned (.int .i64 (idx l nm)) ∧ w = w' := by
  have hm := hl.1
  go_enter Tryz.func100, Tryz.ntmps100
  go_wp2
  go_loop [5] (fun i => ∃ k : Nat, k ≤ l.length ∧ i = .int .i64 k ∧ Hid (∀ j x, j < k → l[j]? = some x → x.name ≠ nm)) (fun i => l.length - (intOf i).toNat)
  case atStart => exact ⟨0, Nat.zero_le _, rfl, fun j x hj => absurd hj (by omega)⟩
  case round =>
    obtain ⟨k, hk, rfl, hn⟩ := hrel
    by_cases hlt : k < l.length
    · have hx : l[k]? = some l[k] := List.getElem?_eq_getElem hlt
      generalize l[k] = x at hx
      obtain ⟨ad, rfl, h0, h1, h2⟩ := hl.br hx
      have HX := Lib.hid hx
      clear hx hl
      by_cases he : x.name = nm
      · have hb := seq_t he
        have HE := Lib.hid he
        clear he
        go_wp2
        go_ret
        exact ⟨ret_int (idx_found HX.out hn.out HE.out).symm, rfl⟩
      · have hb := seq_f he
        have HE := Lib.hid he
        clear he
        go_wp2
        go_round
        case rel =>
          refine ⟨k + 1, by omega, by go_num, fun j y hj hy => ?_⟩
          rcases Nat.lt_succ_iff_lt_or_eq.1 hj with h | rfl
          · exact hn.out j y h hy
          · rw [HX.out] at hy; cases hy; exact HE.out
        case measure => simp [intOf]; omega
    · go_wp2
      go_ret
      refine ⟨ret_int (idx_none fun j y hy => hn.out j y ?_ hy).symm, rfl⟩
      have := (List.getElem?_eq_some_iff.1 hy).1
      omega

theorem ref26_Index_n (l : List Br) (nm : Str) (A : Option Addr) (n c : Nat) (w : World) (hl : Rd elBr w A l) (hn : l.length = n) :
    Calls Tryz.prog 100 #[.slice A n c, .string nm] w fun e w' => e = .returned (.int .i64 (idx l nm)) ∧ w = w' := by
  subst hn; exact ref26_Index l nm A c w hl
/-- The closure of branch.index. -/
theorem branch_index1 (x : Br) (g : Nat) (nm : Str) (w : World) (hp : w.cell? ⟨g, 0, none⟩ = some (.string nm)) :
    Calls Tryz.prog 244 #[.agg #[.string x.name, .string x.frm, .int .i64 x.at_], .pointer (some ⟨g, 0, none⟩)] w fun e w' => e = .returned (.bool (x.name.toList == nm.toList)) ∧ Ext w w' := by
  go_enter Tryz.func244, Tryz.ntmps244
  go_wp2_with ((with_reducible refine ev_box3 (c0 := ?c0) (c1 := ?c1) (c2 := ?c2) ?hx ?_); (case hx => rfl); intro g1 w1 hb he _ k0 k1 k2; have hp1 := he.cell hp; have HE := Lib.hid he; clear he hb)
  go_ret
  exact ⟨rfl, HE.out⟩

theorem branch_index (l : List Br) (nm : Str) (A : Option Addr) (c : Nat) (w : World) (hl : Rd elBr w A l) :
    Calls Tryz.prog 194 #[.slice A l.length c, .string nm] w fun e w' => e = .returned (.int .i64 (idx l nm)) ∧ Ext w w' := by
  go_enter Tryz.func194, Tryz.ntmps194
  go_wp2_with ((with_reducible refine ev_boxS (s := ?s) ?hx ?_); (case hx => rfl); intro g1 w1 hb he _ k0; have HL := Lib.hid (hl.ext he); have HE := Lib.hid he; clear he hb hl)
  refine (IndexFunc_Br l A c 244 _ (fun b => decide (b.name = nm)) w1 HL.out (fun _ _ => by kernel_rfl) ?_).mono ?_
  · intro x w' he
    exact (branch_index1 x g1 nm w' (he.cell k0)).mono fun _ _ ⟨h1, h2⟩ => ⟨by rw [h1, seq_d], h2⟩
  · rintro e w2 ⟨rfl, hE2⟩
    have hE3 := Lib.hid (HE.out.trans hE2)
    clear hE2
    go_wp2
    go_ret
    exact ⟨rfl, hE3.out⟩

theorem branch_index_n (l : List Br) (nm : Str) (A : Option Addr) (n c : Nat) (w : World) (hl : Rd elBr w A l) (hn : l.length = n) :
    Calls Tryz.prog 194 #[.slice A n c, .string nm] w fun e w' => e = .returned (.int .i64 (idx l nm)) ∧ Ext w w' := by
  subst hn; exact branch_index l nm A c w hl
end Go.Proofs.YtgibdafkidkahaaGreatDoor
