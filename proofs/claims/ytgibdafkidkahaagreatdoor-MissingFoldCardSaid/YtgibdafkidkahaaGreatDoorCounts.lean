/- Derived: walks: how many events each branch has. -/
import Derived.Test.YtgibdafkidkahaaGreatDoorOwn
import Derived.Outline
set_option linter.unusedVariables false
set_option linter.unusedSimpArgs false
namespace Go.Proofs.YtgibdafkidkahaaGreatDoor
open Go.RowKit

def cnts (g : Lg) : List Int := g.evs.map fun s => (s.length : Int)
set_option maxRecDepth 100000 in
set_option maxHeartbeats 2000000 in
theorem ref29_Counts (g : Lg) (v : Value) (w : World) (hv : LgV w v g) (hb : g.evs.length ≤ 1000000) :
    Calls Tryz.prog 33 #[v] w fun e w' => ∃ r, e = .returned r ∧ Fresh elInt w.heap.size w' r (cnts g) ∧ Ext w w' := by
  obtain ⟨A0, c0, A1, c1, A2, c2, rfl, h0, h1, h2, r0, r1, r2⟩ := hv.ex
  go_enter Tryz.func33, Tryz.ntmps33
  go_wp2_with ((with_reducible refine ev_box3 (c0 := ?c0) (c1 := ?c1) (c2 := ?c2) ?hx ?_); (case hx => rfl); intro g1 w1 hb1 he hg1 k0 k1 k2)
  have HE := Lib.hid he
  have R2 := Lib.hid (r2.ext he)
  clear he r0 r1 r2 hv
  go_loopw [3, 4] (fun o i wr => ∃ k : Nat, k ≤ g.evs.length ∧ i = .int .i64 k ∧ Own elInt 3 w1.heap.size wr o ((cnts g).take k) ∧ Hid (Ext w1 wr)) (fun _ i _ => g.evs.length - (intOf i).toNat)
  case atStart => exact ⟨0, Nat.zero_le _, rfl, Own.nil _ _ _ _, Ext.refl _⟩
  case round =>
    obtain ⟨k, hk, rfl, ho, hE⟩ := hrel
    have HO := Lib.hid ho
    clear ho
    have k2' := hE.out.cell k2
    by_cases hlt : k < g.evs.length
    · have hx : g.evs[k]? = some g.evs[k] := List.getElem?_eq_getElem hlt
      generalize g.evs[k] = x at hx
      obtain ⟨ad, D, c, rfl, q0, q1, q2⟩ := (R2.out.ext hE.out).sub hx
      have HX := Lib.hid hx
      clear hx
      go_wp2_with (with_reducible refine stop_lit ?_)
      refine Stop.go ?_
      refine ev_appInt (x.length : Int) rfl (fun _ => rfl) (fun _ => rfl) HO.out hE.out rfl (by rw [List.length_take]; omega) ?_
      intro u v1 w2 ho2 hE2 _ _
      have HO2 := Lib.hid ho2
      have HE2 := Lib.hid hE2
      clear HO hE k2' q0 q1 q2 ho2 hE2
      go_wp2
      go_roundw
      case rel =>
        refine ⟨k + 1, by omega, by go_num, ?_, HE2.out⟩
        rw [show (cnts g).take (k + 1) = (cnts g).take k ++ [(x.length : Int)] from ?_]
        · exact HO2.out
        · rw [List.take_add_one]; simp [cnts, HX.out]
      case measure => simp [intOf]; omega
    · have hkk : (cnts g).take k = cnts g := List.take_of_length_le (by simp [cnts]; omega)
      rw [hkk] at HO
      clear hkk
      go_wp2
      go_ret
      exact ⟨_, rfl, HO.out.fresh HE.out.size, HE.out.trans hE.out⟩

set_option maxRecDepth 100000 in
set_option maxHeartbeats 2000000 in
theorem ledger_counts (g : Lg) (v : Value) (w : World) (hv : LgV w v g) (hb : g.evs.length ≤ 1000000) :
    Calls Tryz.prog 135 #[v] w fun e w' => ∃ r, e = .returned r ∧ Fresh elInt w.heap.size w' r (cnts g) ∧ Ext w w' := by
  obtain ⟨A0, c0, A1, c1, A2, c2, rfl, h0, h1, h2, r0, r1, r2⟩ := hv.ex
  go_enter Tryz.func135, Tryz.ntmps135
  go_wp2_with (first | ((with_reducible refine ev_box3 (c0 := ?c0) (c1 := ?c1) (c2 := ?c2) ?hx ?_); (case hx => rfl); intro g1 w1 hb1 he hg1 k0 k1 k2) | ((with_reducible refine ev_makeInt (n := g.evs.length) ?hl ?hc hb ?_); (case hl => rfl); (case hc => rfl); intro g2 w2 hb2 he2 hg2; have k3 := he2.cell k2))
  have HE := Lib.hid (he.trans he2)
  have R2 := Lib.hid r2
  have hge : w.heap.size ≤ g2 := Nat.le_trans he.size hg2
  have hgne : g1 ≠ g2 := by have := blk_lt hb1; omega
  clear r0 r1 r2 hv k0 k1 k2 he he2 hb1
  try go_frame
  go_loopw [13] (fun i wr => ∃ k : Nat, k ≤ g.evs.length ∧ i = .int .i64 k ∧ Hid (wr.heap[g2]? = some (.cells (((cnts g).take k ++ List.replicate (g.evs.length - k) (0 : Int)).map (Value.int .i64)).toArray 3 (0, 0)) ∧ Turned g2 w2 wr)) (fun i _ => g.evs.length - (intOf i).toNat)
  case atStart => exact ⟨0, Nat.zero_le _, rfl, by simpa using hb2, ⟨rfl, rfl, rfl, rfl, fun _ _ => rfl⟩⟩
  case round =>
    obtain ⟨k, hk, rfl, HB⟩ := hrel
    have k3' : wr.cell? ⟨g1, 2, none⟩ = some (.slice A2 g.evs.length c2) := (HB.out.2.cell (by exact hgne)).trans k3
    by_cases hlt : k < g.evs.length
    · have hx : g.evs[k]? = some g.evs[k] := List.getElem?_eq_getElem hlt
      generalize g.evs[k] = x at hx
      obtain ⟨ad, D, c, rfl, q0, q1, q2⟩ := (R2.out.ext (HB.out.2.ext HE.out hge)).sub hx
      have HX := Lib.hid hx
      have m0 := ints_cell HB.out.1 (k := k) (by simp [cnts]; omega)
      have m1 := blk_frozen HB.out.1 k
      clear hx q2 hb2
      go_wp2
      go_roundw
      case rel =>
        refine ⟨k + 1, by omega, by go_num, ?_, HB.out.2.trans (Turned.setCell _ _ _ _)⟩
        have := ints_set HB.out.1 k (x.length : Int)
        rw [this]
        congr 4
        have hl : (cnts g).length = g.evs.length := by simp [cnts]
        have hk1 : ((cnts g).take k).length = k := by rw [List.length_take]; omega
        have e1 : (cnts g).take (k + 1) = (cnts g).take k ++ [(x.length : Int)] := by rw [List.take_add_one]; simp [cnts, HX.out]
        rw [e1, List.set_append_right _ _ (by omega), hk1, Nat.sub_self, show g.evs.length - k = (g.evs.length - (k + 1)) + 1 from by omega, List.replicate_succ, List.set_cons_zero, List.append_assoc]
        rfl
      case measure => simp [intOf]; omega
    · have hk2 : k = g.evs.length := by omega
      have hB := HB.out.1
      rw [hk2, Nat.sub_self, List.replicate_zero, List.append_nil, List.take_of_length_le (by simp [cnts])] at hB
      have HB2 := Lib.hid hB
      clear hB hk2
      go_wp2
      go_ret
      refine ⟨_, rfl, ?_, HB.out.2.ext HE.out hge⟩
      have := own_ints (B := w.heap.size) HB2.out hge (by simp [cnts]; omega)
      rw [show (cnts g).length = g.evs.length from by simp [cnts]] at this
      exact this.fresh (Nat.le_refl _)
end Go.Proofs.YtgibdafkidkahaaGreatDoor
