/- Derived: walks: the gaps of a branch. -/
import Derived.Test.YtgibdafkidkahaaGreatDoorMisC
set_option linter.unusedVariables false
set_option linter.unusedSimpArgs false
namespace Go.Proofs.YtgibdafkidkahaaGreatDoor
open Go.RowKit

theorem Own.grown {α : Type} {E : El α} (hf : E.Flat) {e B : Nat} {w w' : World} {v : Value} {xs : List α} {row : Option Nat} (h : Own E e B w v xs) (hg : w.grownBy w' row) (hne : ∀ k, row = some k → v.ownBlock ≠ some k) : Own E e B w' v xs := by
  obtain ⟨css, h1, h2⟩ := h
  refine ⟨css, h1.kept hg ?_, h2.imp fun _ _ hk => hf _ _ _ _ _ _ hk⟩
  cases row with
  | none => cases v.ownBlock <;> simp
  | some b => have := hne b rfl; cases hv : v.ownBlock with
    | none => simp
    | some k => rw [hv] at this; simp at this ⊢; exact this
theorem iGp : (Tryz.prog.info? 62).map (fun i => (i.zero, i.size, i.bytes)) = some (some (.agg #[.string ⟨#[]⟩, .int .i64 0, .int .i64 0]), 3, 32) := by kernel_rfl
theorem litGp (x : Gp) (w : World) : (Instr.buildSlice 29 1 #[(0, .agg #[.string x.br, .int .i64 x.cls, .int .i64 x.wt])]).run Tryz.prog w = .ok (.slice (some ⟨w.heap.size, 0, none⟩) 1 1) (w.alloc (.cells (.agg #[.string x.br, .int .i64 x.cls, .int .i64 x.wt] : Value).cells 62)) := by kernel_rfl
theorem ev_appGp {ops : Array Oper} {rest : List Oper} {a : Act} {Q : Exit → Act → World → Prop} {w w0 : World} {d1 d2 : Tmp} {ty1 ty2 : TypeId} {s x : Operand} {p1 p2 : String} {f1 f2 : Array Edge} {B : Nat} {v : Value} {xs : List Gp} (x0 : Gp)
    (hx : a.eval x = .agg #[.string x0.br, .int .i64 x0.cls, .int .i64 x0.wt]) (hs : ∀ u, (a.put (some d1) u).eval s = v) (hd : ∀ u, (a.put (some d1) u).eval (.tmp d1) = u)
    (HO : Own elGp 62 B w v xs) (HE : Ext w0 w) (hB : B = w0.heap.size) (hl : xs.length < 1000000)
    (h : ∀ u v1 w1, Own elGp 62 B w1 v1 (xs ++ [x0]) → Ext w0 w1 → w.grownBy w1 v.ownBlock → (v1.ownBlock = v.ownBlock ∨ ∃ b, v1.ownBlock = some b ∧ w.heap.size ≤ b) → wpList Tryz.prog ops Q rest ((a.put (some d1) u).put (some d2) v1) w1) :
    wpList Tryz.prog ops Q ({ dst := some d1, op := .buildSlice 29 1 #[(0, x)], type := ty1, pos := p1, after := f1, guard := none } :: { dst := some d2, op := .call { callee := .builtin .append, args := #[s, .tmp d1], argTypes := #[29, 29] }, type := ty2, pos := p2, after := f2, guard := none } :: rest) a w :=
  ev_append elGp 62 _ 3 _ Tryz.underlying29 iGp rfl rfl (by decide) (by decide) hx hs hd (litGp x0) HO HE hB rfl (by omega) h
theorem gapsOf_take {fx : List Fx} {k : Nat} {x : Fx} (h : fx[k]? = some x) (b : Str) (inn : List Int) :
    gapsOf (fx.take (k + 1)) b inn = gapsOf (fx.take k) b inn ++ if (wanted x b && !decide (x.cls ∈ inn)) = true then [⟨b, x.cls, x.wt⟩] else [] := by
  unfold gapsOf
  rw [List.take_add_one, h, List.filter_append, List.map_append]
  congr 1
  cases hc : (wanted x b && !decide (x.cls ∈ inn)) <;> simp [hc]
theorem gapsOf_len (fx : List Fx) (b : Str) (inn : List Int) : (gapsOf fx b inn).length ≤ fx.length := by
  unfold gapsOf
  rw [List.length_map]
  exact List.length_filter_le _ _
theorem has_any (inn : List Int) (n : Int) : (inn.any fun x => decide (x = n)) = decide (n ∈ inn) := by
  rw [Bool.eq_iff_iff]
  simp
/-- Where gaps grow: they are the call's own, and what is in effect lies elsewhere. -/
def GapsAt (w0 : World) (B3 : Nat) (inn : List Int) (v3 : Value) (wr : World) (v : Value) (xs : List Gp) : Prop :=
  Own elGp 62 w0.heap.size wr v xs ∧ Own elInt 3 B3 wr v3 inn ∧ (∀ k, v.ownBlock = some k → v3.ownBlock ≠ some k) ∧ Ext w0 wr
set_option maxRecDepth 100000 in
set_option maxHeartbeats 4000000 in
theorem missing_gaps (fx : List Fx) (b : Str) (inn : List Int) (v0 : Value) (xs : List Gp) (A A3 : Option Addr) (c c3 B3 : Nat) (w0 w : World) (hf : Rd elFx w0 A fx) (hg : GapsAt w0 B3 inn (.slice A3 inn.length c3) w v0 xs) (hl : xs.length + fx.length < 1000000) :
    Calls Tryz.prog 76 #[v0, .slice A fx.length c, .string b, .slice A3 inn.length c3] w fun e w' => ∃ r, e = .returned r ∧ Own elGp 62 w0.heap.size w' r (xs ++ gapsOf fx b inn) ∧ Ext w0 w' := by
  have hm0 := hf.1
  have HG0 : Hid (GapsAt w0 B3 inn (.slice A3 inn.length c3) w v0 (xs ++ gapsOf (fx.take 0) b inn)) := Lib.hid (by rw [List.take_zero, gapsOf]; simpa using hg)
  clear hg
  go_enter Tryz.func76, Tryz.ntmps76
  go_wp2
  go_loopw [0, 13] (fun o i wr => ∃ k : Nat, k ≤ fx.length ∧ i = .int .i64 (k : Int) ∧ Hid (GapsAt w0 B3 inn (.slice A3 inn.length c3) wr o (xs ++ gapsOf (fx.take k) b inn))) (fun _ i _ => fx.length - (intOf i).toNat)
  case atStart => exact ⟨0, Nat.zero_le _, rfl, HG0.out⟩
  case round =>
    clear HG0
    obtain ⟨k, hk, rfl, HG⟩ := hrel
    by_cases hlt : k < fx.length
    · have hx : fx[k]? = some fx[k] := List.getElem?_eq_getElem hlt
      generalize fx[k] = x at hx
      obtain ⟨ad, B, cB, rfl, q0, q1, q2, hcB, qr⟩ := (hf.ext HG.out.2.2.2).fx hx
      have HT := Lib.hid (gapsOf_take hx b inn)
      have QR := Lib.hid qr
      have hL := gapsOf_len (fx.take k) b inn
      rw [List.length_take] at hL
      have HLN : Hid ((xs ++ gapsOf (fx.take k) b inn).length < 1000000) := Lib.hid (by rw [List.length_append]; omega)
      clear hx qr hf hL
      go_wp2_with (first | ((with_reducible refine ev_var (v := .agg #[.int .i64 x.cls, .int .i64 x.wt, .slice B x.brs.length cB]) _ zFx ?hd ?hx ?hs ?h1 ?_); (case hd => exact fun _ => rfl); (case hx => exact fun _ => rfl); (case hs => rfl); (case h1 => exact one3 rfl rfl rfl); intro gx w4 hb he4 hgx; have m0 := (blk_cell hb 0).trans rfl; have m1 := (blk_cell hb 1).trans rfl; have m2 := (blk_cell hb 2).trans rfl; have HE4 := Lib.hid he4; have HGX := Lib.hid hgx; have HLT := Lib.hid (blk_lt hb); clear hb he4 hgx))
      have HO4 := Lib.hid (HG.out.1.ext HE4.out)
      have HI4 := Lib.hid (HG.out.2.1.ext HE4.out)
      have HEX := Lib.hid (HG.out.2.2.2.trans HE4.out)
      have HNE := Lib.hid HG.out.2.2.1
      have HGO : Hid (∀ k, _ = some k → k < wr.heap.size) := Lib.hid (fun k hk => (HG.out.1.blk k hk).2)
      have HCS := Lib.hid (Contains_Str x.brs b B cB w4 (QR.out.ext HE4.out))
      have HCI := Lib.hid (Contains_Int inn x.cls A3 c3 w4 (by obtain ⟨A', c', e, _, hr⟩ := HI4.out.sl; cases e; exact hr))
      clear HG q0 q1 q2
      cases hw : wanted x b with
      | false =>
        have HG5 : Hid (GapsAt w0 B3 inn (.slice A3 inn.length c3) w4 _ (xs ++ gapsOf (fx.take (k + 1)) b inn)) := Lib.hid ⟨by rw [HT.out, hw]; simpa using HO4.out, HI4.out, HNE.out, HEX.out⟩
        have HW : Hid ((x.brs.any fun y => decide (y = b)) = false) := Lib.hid hw
        rw [HW.out] at HCS
        clear hw
        go_wp2_with fail
        refine HCS.out.mono ?_
        rintro e wz ⟨rfl, rfl⟩
        go_wp2
        go_roundw
        case rel => exact ⟨k + 1, by omega, by go_num, HG5.out⟩
        case measure => simp [intOf]; omega
      | true =>
        have HW : Hid ((x.brs.any fun y => decide (y = b)) = true) := Lib.hid hw
        rw [HW.out] at HCS
        cases hc : decide (x.cls ∈ inn) with
        | true =>
          have HG5 : Hid (GapsAt w0 B3 inn (.slice A3 inn.length c3) w4 _ (xs ++ gapsOf (fx.take (k + 1)) b inn)) := Lib.hid ⟨by rw [HT.out, hw, hc]; simpa using HO4.out, HI4.out, HNE.out, HEX.out⟩
          rw [has_any, hc] at HCI
          clear hw hc
          go_wp2_with fail
          refine HCS.out.mono ?_
          rintro e wz ⟨rfl, rfl⟩
          go_wp2_with fail
          refine HCI.out.mono ?_
          rintro e wz ⟨rfl, rfl⟩
          go_wp2
          go_roundw
          case rel => exact ⟨k + 1, by omega, by go_num, HG5.out⟩
          case measure => simp [intOf]; omega
        | false =>
          have HT2 : Hid (gapsOf (fx.take (k + 1)) b inn = gapsOf (fx.take k) b inn ++ [⟨b, x.cls, x.wt⟩]) := Lib.hid (by rw [HT.out, hw, hc]; rfl)
          rw [has_any, hc] at HCI
          clear hw hc
          go_wp2_with fail
          refine HCS.out.mono ?_
          rintro e wz ⟨rfl, rfl⟩
          go_wp2_with fail
          refine HCI.out.mono ?_
          rintro e wz ⟨rfl, rfl⟩
          go_wp2_with (with_reducible refine stop_lit ?_)
          refine Stop.go ?_
          refine ev_appGp ⟨b, x.cls, x.wt⟩ rfl (fun _ => rfl) (fun _ => rfl) HO4.out HEX.out rfl HLN.out ?_
          intro u v5 w5 ho5 he5 hg5 hat5
          have HG5 : Hid (GapsAt w0 B3 inn (.slice A3 inn.length c3) w5 v5 (xs ++ gapsOf (fx.take (k + 1)) b inn)) := Lib.hid ⟨by rw [HT2.out, ← List.append_assoc]; exact ho5, HI4.out.grown flInt hg5 HNE.out, fun j hj => by
            rcases hat5 with h | ⟨bb, h, h1⟩
            · exact HNE.out j (by rw [← h]; exact hj)
            · intro e
              have := (HI4.out.blk j e).2
              rw [h] at hj
              cases hj
              omega, he5⟩
          have m0' := grown_cell hg5 HLT.out (fun e => by have := HGO.out gx e; have := HGX.out; omega) m0
          clear ho5 he5 hg5 hat5 HCS HCI HO4 HI4 HEX HNE HGO m0 m1 m2
          go_wp2
          go_roundw
          case rel => exact ⟨k + 1, by omega, by go_num, HG5.out⟩
          case measure => simp [intOf]; omega
    · have HR : Hid (Own elGp 62 w0.heap.size wr _ (xs ++ gapsOf fx b inn)) := Lib.hid (by have := HG.out.1; rw [List.take_of_length_le (by omega)] at this; exact this)
      have HE := Lib.hid HG.out.2.2.2
      clear HG hf
      go_wp2
      go_ret
      exact ⟨_, rfl, HR.out, HE.out⟩
end Go.Proofs.YtgibdafkidkahaaGreatDoor
