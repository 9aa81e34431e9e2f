/- Derived: walks: what became of each class: seen, and in effect. -/
import Derived.Test.YtgibdafkidkahaaGreatDoorCls
import Derived.Test.YtgibdafkidkahaaGreatDoorLed3
import Derived.Deep.MidRow
set_option linter.unusedVariables false
set_option linter.unusedSimpArgs false
namespace Go.Proofs.YtgibdafkidkahaaGreatDoor
open Go.RowKit

def stCells (f h : Nat → Bool) : List Value := (List.range 30).map (fun c => Value.bool (f c)) ++ (List.range 30).map (fun c => Value.bool (h c))
def St (w : World) (b : Nat) (f h : Nat → Bool) : Prop := w.heap[b]? = some (.cells (stCells f h).toArray 215 (0, 0))
theorem stCells_get0 (f h : Nat → Bool) {c : Nat} (hc : c < 30) : (stCells f h)[c]? = some (.bool (f c)) := by
  unfold stCells
  rw [List.getElem?_append_left (by simpa using hc), List.getElem?_map, List.getElem?_range hc]; rfl
theorem stCells_get1 (f h : Nat → Bool) {c : Nat} (hc : c < 30) : (stCells f h)[30 + c]? = some (.bool (h c)) := by
  unfold stCells
  rw [List.getElem?_append_right (by simp), List.getElem?_map, List.length_map, List.length_range, Nat.add_sub_cancel_left, List.getElem?_range hc]; rfl
theorem St.seen {w : World} {b : Nat} {f h : Nat → Bool} (s : St w b f h) {c : Nat} (hc : c < 30) : w.cell? ⟨b, c, none⟩ = some (.bool (f c)) := by
  rw [blk_cell s]; simp [stCells_get0 f h hc]
theorem St.inn {w : World} {b : Nat} {f h : Nat → Bool} (s : St w b f h) {c : Nat} (hc : c < 30) : w.cell? ⟨b, 30 + c, none⟩ = some (.bool (h c)) := by
  rw [blk_cell s]; simp [stCells_get1 f h hc]
def upd (f : Nat → Bool) (c : Nat) (v : Bool) : Nat → Bool := fun k => if k = c then v else f k
theorem map_range_set (f : Nat → Bool) (c : Nat) (v : Bool) (n : Nat) : ((List.range n).map fun k => Value.bool (f k)).set c (.bool v) = (List.range n).map fun k => Value.bool (upd f c v k) := by
  apply List.ext_getElem?
  intro k
  rw [List.getElem?_set, List.getElem?_map, List.getElem?_map, List.length_map, List.length_range]
  rcases Nat.lt_or_ge k n with hk | hk
  · rw [List.getElem?_range hk]
    by_cases h : c = k
    · subst h; simp [upd, hk]
    · simp [upd, h, Ne.symm h]
  · rw [List.getElem?_eq_none (by simpa using hk)]
    by_cases h : c = k
    · subst h; simp [Nat.not_lt.2 hk]
    · simp [h]
theorem St.set0 {w : World} {b : Nat} {f h : Nat → Bool} (s : St w b f h) {c : Nat} (hc : c < 30) (v : Bool) : St (w.setCell ⟨b, c, none⟩ (.bool v)) b (upd f c v) h := by
  unfold St
  rw [blk_set s]
  unfold stCells
  rw [List.setIfInBounds_toArray, List.set_append_left _ _ (by simpa using hc), map_range_set]
theorem St.set1 {w : World} {b : Nat} {f h : Nat → Bool} (s : St w b f h) {c : Nat} (hc : c < 30) (v : Bool) : St (w.setCell ⟨b, 30 + c, none⟩ (.bool v)) b f (upd h c v) := by
  unfold St
  rw [blk_set s]
  unfold stCells
  rw [List.setIfInBounds_toArray, List.set_append_right _ _ (by simp), List.length_map, List.length_range, Nat.add_sub_cancel_left, map_range_set]
theorem state_put (b c : Nat) (f h : Nat → Bool) (kd : Int) (w : World) (hs : St w b f h) (hc : c < 30) :
    Calls Tryz.prog 178 #[.pointer (some ⟨b, 0, none⟩), .int .u8 kd, .int .i64 (c : Int)] w fun e w' => e = .returned (.tuple #[]) ∧ St w' b (upd f c true) (upd h c (decide (kd ≠ 3))) ∧ Turned b w w' := by
  have m0 := hs.seen hc
  have f0 := blk_frozen hs c
  have hs1 := hs.set0 hc true
  have m1 := hs1.inn hc
  have f1 := blk_frozen hs1 (30 + c)
  have H1 := Lib.hid hs1
  clear hs1 hs
  go_enter Tryz.func178, Tryz.ntmps178
  go_wp2
  go_end0
  have hk : (kd != 3) = decide (kd ≠ 3) := by by_cases h : kd = 3 <;> simp [h]
  rw [hk]
  exact ⟨rfl, H1.out.set1 hc _, (Turned.setCell _ _ _ _).trans (Turned.setCell _ _ _ _)⟩
set_option maxRecDepth 100000 in
set_option maxHeartbeats 4000000 in
theorem state_allow (b c : Nat) (f h : Nat → Bool) (kd : Int) (w : World) (hs : St w b f h) (hc : c < 30) :
    Calls Tryz.prog 107 #[.pointer (some ⟨b, 0, none⟩), .int .u8 kd, .int .i64 (c : Int)] w fun e w' => e = .returned (.int .i64 (allowS (f c) (h c) kd)) ∧ w = w' := by
  have m0 := hs.seen hc
  have m1 := hs.inn hc
  clear hs
  generalize f c = se at *
  generalize h c = inn at *
  by_cases hk1 : kd < 1
  · have HV : Hid (allowS se inn kd = 2) := Lib.hid (if_pos (.inl hk1))
    go_enter Tryz.func107, Tryz.ntmps107
    go_wp2
    go_ret
    exact ⟨ret_int HV.out.symm, rfl⟩
  · by_cases hk4 : 4 < kd
    · have HV : Hid (allowS se inn kd = 2) := Lib.hid (if_pos (.inr hk4))
      go_enter Tryz.func107, Tryz.ntmps107
      go_wp2
      go_ret
      exact ⟨ret_int HV.out.symm, rfl⟩
    · rcases (show kd = 1 ∨ kd = 2 ∨ kd = 3 ∨ kd = 4 by omega) with rfl | rfl | rfl | rfl
      · clear hk1 hk4
        cases inn with
        | true =>
          cases se with
          | true =>
            go_enter Tryz.func107, Tryz.ntmps107
            go_wp2
            go_ret
            exact ⟨rfl, rfl⟩
          | false =>
            go_enter Tryz.func107, Tryz.ntmps107
            go_wp2
            go_ret
            exact ⟨rfl, rfl⟩
        | false =>
          cases se with
          | true =>
            go_enter Tryz.func107, Tryz.ntmps107
            go_wp2
            go_ret
            exact ⟨rfl, rfl⟩
          | false =>
            go_enter Tryz.func107, Tryz.ntmps107
            go_wp2
            go_ret
            exact ⟨rfl, rfl⟩
      · clear hk1 hk4
        cases inn with
        | true =>
          cases se with
          | true =>
            go_enter Tryz.func107, Tryz.ntmps107
            go_wp2
            go_ret
            exact ⟨rfl, rfl⟩
          | false =>
            go_enter Tryz.func107, Tryz.ntmps107
            go_wp2
            go_ret
            exact ⟨rfl, rfl⟩
        | false =>
          cases se with
          | true =>
            go_enter Tryz.func107, Tryz.ntmps107
            go_wp2
            go_ret
            exact ⟨rfl, rfl⟩
          | false =>
            go_enter Tryz.func107, Tryz.ntmps107
            go_wp2
            go_ret
            exact ⟨rfl, rfl⟩
      · clear hk1 hk4
        cases inn with
        | true =>
          cases se with
          | true =>
            go_enter Tryz.func107, Tryz.ntmps107
            go_wp2
            go_ret
            exact ⟨rfl, rfl⟩
          | false =>
            go_enter Tryz.func107, Tryz.ntmps107
            go_wp2
            go_ret
            exact ⟨rfl, rfl⟩
        | false =>
          cases se with
          | true =>
            go_enter Tryz.func107, Tryz.ntmps107
            go_wp2
            go_ret
            exact ⟨rfl, rfl⟩
          | false =>
            go_enter Tryz.func107, Tryz.ntmps107
            go_wp2
            go_ret
            exact ⟨rfl, rfl⟩
      · clear hk1 hk4
        cases inn with
        | true =>
          cases se with
          | true =>
            go_enter Tryz.func107, Tryz.ntmps107
            go_wp2
            go_ret
            exact ⟨rfl, rfl⟩
          | false =>
            go_enter Tryz.func107, Tryz.ntmps107
            go_wp2
            go_ret
            exact ⟨rfl, rfl⟩
        | false =>
          cases se with
          | true =>
            go_enter Tryz.func107, Tryz.ntmps107
            go_wp2
            go_ret
            exact ⟨rfl, rfl⟩
          | false =>
            go_enter Tryz.func107, Tryz.ntmps107
            go_wp2
            go_ret
            exact ⟨rfl, rfl⟩

theorem elem_get (h : Nat → Bool) {c : Nat} (hc : c < 30) : ((List.range 30).map fun k => Value.bool (h k))[c]? = some (.bool (h c)) := by
  rw [List.getElem?_map, List.getElem?_range hc]; rfl
/-- The numbers of what a test lets by. -/
def lets (h : Nat → Bool) (k : Nat) : List Int := ((List.range k).filter h).map fun c : Nat => (c : Int)
theorem lets_succ (h : Nat → Bool) (k : Nat) : lets h (k + 1) = if h k then lets h k ++ [(k : Int)] else lets h k := by
  unfold lets
  rw [List.range_succ, List.filter_append]
  cases e : h k <;> simp [e]
theorem lets_len (h : Nat → Bool) (k : Nat) : (lets h k).length ≤ k := by
  unfold lets
  rw [List.length_map]
  exact Nat.le_trans (List.length_filter_le _ _) (by simp)
theorem effN_lets (g : Lg) (s : List Ev) (k : Nat) : effN g s k = lets (fun c => inP g s (c : Int)) k := rfl
theorem sizeB : (Tryz.prog.info? 74).map (·.size) = some 30 := by kernel_rfl
theorem sizeB1 : (Tryz.prog.info? 4).map (·.size) = some 1 := by kernel_rfl
theorem St.range {w : World} {b : Nat} {f h : Nat → Bool} (s : St w b f h) : w.rangeAt b 30 ((List.range 30).map fun k => Value.bool (h k)) := by
  intro j v hv
  have hj : j < 30 := by have := (List.getElem?_eq_some_iff.1 hv).1; simpa using this
  rw [elem_get h hj] at hv
  cases hv
  exact s.inn hj
theorem run_index_bool (h : Nat → Bool) {k : Nat} (hk : k < 30) (w : World) : (Instr.index 74 (.agg ((List.range 30).map fun k => Value.bool (h k)).toArray) (.int .i64 (k : Int))).run Tryz.prog w = .ok (.bool (h k)) w := by
  have hu : (underlying 74).run Tryz.prog w = .ok (.array 30 4) w := run_underlying Tryz.underlying74 w
  have h0 : (0 : Int) ≤ (k : Int) ∧ (k : Int) < ((30 : Nat) : Int) := by omega
  obtain ⟨i, hi, hs⟩ := Option.map_eq_some_iff.1 sizeB1
  have he : (isAgg 4).run Tryz.prog w = .ok false w := by
    unfold isAgg
    rw [Sem.run_bind, run_underlying Tryz.underlying4 w]
    rfl
  have hz : (sizeOf 4).run Tryz.prog w = .ok 1 w := by simp [sizeOf, typeInfo, hi, hs, go_sem]
  have hg := elem_get h hk
  simp [Instr.index, Sem.run_bind, asIntOf, hu, h0, hz, part, he, Sem.run_pure, hk]
section
variable {P : Program} {ops : Array Oper} {rest : List Oper} {a : Act} {Q : Exit → Act → World → Prop} {w : World}
theorem stop_ldB {d : Option Tmp} {ty : Nat} {p : Operand} {pos : String} {af : Array Edge} {gd : Option (Nat × Bool)}
    (h : Stop (wpList P ops Q ({ dst := d, op := .load 74 p, type := ty, pos := pos, after := af, guard := gd } :: rest) a w)) :
    wpList P ops Q ({ dst := d, op := .load 74 p, type := ty, pos := pos, after := af, guard := gd } :: rest) a w := h
theorem ev_load {d : Option Tmp} {t ty : TypeId} {x : Operand} {pos : String} {af : Array Edge} {p v : Value} (hx : a.eval x = p) (hr : (Instr.loadAt t p).run P w = .ok v w)
    (h : wpList P ops Q rest (a.put d v) w) : wpList P ops Q ({ dst := d, op := .load t x, type := ty, pos := pos, after := af, guard := none } :: rest) a w := by
  subst hx
  refine wp_run rfl ?_ h
  simp only [execOp, Sem.run_bind, hr, Result.andThen, Sem.run_pure]
end
set_option maxRecDepth 100000 in
theorem state_list (b : Nat) (f h : Nat → Bool) (w : World) (hs : St w b f h) :
    Calls Tryz.prog 145 #[.pointer (some ⟨b, 0, none⟩)] w fun e w' => ∃ r, e = .returned r ∧ Own elInt 3 w.heap.size w' r (lets h 30) ∧ Ext w w' := by
  have hld : (Instr.loadAt 74 (.pointer (some ⟨b, 30, none⟩))).run Tryz.prog w = .ok (.agg ((List.range 30).map fun k => Value.bool (h k)).toArray) w :=
    run_loadAt_mid w b 30 74 _ _ hs.range Tryz.underlying74 rfl (by rw [sizeB]; simp)
  have hix : ∀ k : Nat, k < 30 → ∀ w, (Instr.index 74 (.agg ((List.range 30).map fun k => Value.bool (h k)).toArray) (.int .i64 (k : Int))).run Tryz.prog w = .ok (.bool (h k)) w := fun k hk w => run_index_bool h hk w
  generalize ((List.range 30).map fun k => Value.bool (h k)).toArray = cs at hld hix
  have HIX := Lib.hid hix
  clear hs hix
  go_enter Tryz.func145, Tryz.ntmps145
  go_wp2_with (with_reducible refine stop_ldB ?_)
  refine Stop.go ?_
  refine ev_load rfl hld ?_
  go_wp2
  go_loopw [3, 10] (fun o i wr => ∃ k : Nat, k ≤ 30 ∧ i = .int .i64 (k : Int) ∧ Hid (Own elInt 3 w.heap.size wr o (lets h k)) ∧ Hid (Ext w wr)) (fun _ i _ => 30 - (intOf i).toNat)
  case atStart => exact ⟨0, Nat.zero_le _, rfl, Own.nil _ _ _ _, Ext.refl _⟩
  case round =>
    obtain ⟨k, hk, rfl, HO, hE⟩ := hrel
    by_cases hlt : k < 30
    · have HS := Lib.hid (lets_succ h k)
      have HL := Lib.hid (lets_len h k)
      have hix := HIX.out k hlt
      cases hb : h k with
      | true =>
        rw [hb] at hix HS
        clear hb
        go_wp2_with (with_reducible refine stop_lit ?_)
        refine Stop.go ?_
        refine ev_appInt (k : Int) rfl (fun _ => rfl) (fun _ => rfl) HO.out hE.out rfl (by have := HL.out; omega) ?_
        intro u v3 w3 ho3 he3 _ _
        have HO3 : Hid (Own elInt 3 w.heap.size w3 v3 (lets h (k + 1))) := Lib.hid (by rw [HS.out]; exact ho3)
        have HE3 := Lib.hid he3
        clear ho3 he3 HO hE HS HL
        go_wp2
        go_roundw
        case rel => exact ⟨k + 1, by omega, by go_num, HO3.out, HE3.out⟩
        case measure => simp [intOf]; omega
      | false =>
        rw [hb] at hix HS
        clear hb
        have HO3 : Hid (Own elInt 3 w.heap.size wr _ (lets h (k + 1))) := Lib.hid (by rw [HS.out]; exact HO.out)
        clear HO HS HL
        go_wp2
        go_roundw
        case rel => exact ⟨k + 1, by omega, by go_num, HO3.out, hE.out⟩
        case measure => simp [intOf]; omega
    · have hk30 : k = 30 := by omega
      have HO2 : Hid (Own elInt 3 w.heap.size wr _ (lets h 30)) := Lib.hid (by have := HO.out; rw [hk30] at this; exact this)
      clear HO hk30
      go_wp2
      go_ret
      exact ⟨_, rfl, HO2.out, hE.out⟩
end Go.Proofs.YtgibdafkidkahaaGreatDoor
