/- Derived: walks: the text of all gaps: the program. -/
import Derived.Test.YtgibdafkidkahaaGreatDoorBld
import Derived.StillTailTactics
set_option linter.unusedVariables false
set_option linter.unusedSimpArgs false
namespace Go.Proofs.YtgibdafkidkahaaGreatDoor
open Go.RowKit

theorem str_data (s : Str) : (⟨s.data.toList.toArray⟩ : Str) = s := by cases s; simp
theorem strCells_app (a b : Str) : Lib.strCells (a ++ b) = Lib.strCells a ++ Lib.strCells b := by simp [Lib.strCells]
theorem decS_lib {n : Nat} (h : n < 100) : (⟨(Lib.decDigits n).toArray⟩ : Str) = decS n := by
  by_cases h1 : n < 10
  · rw [decS_small h1, Lib.decDigits, dif_pos h1]; rfl
  · rw [Lib.decDigits, dif_neg h1, Lib.decDigits, dif_pos (by omega), decS, if_neg h1]; rfl
theorem itoa_small (n : Nat) (h : n < 100) (w : World) : Calls Tryz.prog 80 #[.int .i64 (n : Int)] w fun e w' => e = .returned (.string (decS n)) ∧ w' = w := by
  have := Tryz.strconv_Itoa_small n h w
  rw [decS_lib h] at this
  exact this
/-- A builder of the call's own that holds a text. -/
def BldS (B b : Nat) (s : Str) (w : World) : Prop := Lib.IsBuilder 147 5 B b (Lib.strCells s) w
theorem bldAt_ext {T e B b : Nat} {p : Value} {bs : List Value} {w w' : World} (h : Lib.BuilderAt T e B b p bs w) (he : Ext w w') : Lib.BuilderAt T e B b p bs w' := by
  obtain ⟨hB, v, hb, hown, hne⟩ := h
  exact ⟨hB, v, he.blk hb, hown.kept (grown_ext he none) (by cases v.ownBlock <;> simp), hne⟩
theorem BldS.ext {B b : Nat} {s : Str} {w w' : World} (h : BldS B b s w) (he : Ext w w') : BldS B b s w' := by
  rcases h with h | h
  · exact .inl (bldAt_ext h he)
  · exact .inr (bldAt_ext h he)
theorem zGp : (Tryz.prog.info? 62).map (fun i => (i.zero, i.size)) = some (some (.agg #[.string ⟨#[]⟩, .int .i64 0, .int .i64 0]), 3) := by kernel_rfl
theorem zBld : (Tryz.prog.info? 147).map (fun i => i.zero) = some (some (.agg #[.pointer none, .slice none 0 0])) := by kernel_rfl
theorem bldS_new {w : World} {b B : Nat} (hb : w.heap[b]? = some (.cells #[.pointer none, .slice none 0 0] 147 (0, 0))) (hB : B ≤ b) : BldS B b ByteArray.empty w :=
  .inl ⟨hB, _, hb, World.ownsRow_nil _ _ _ _, by simp [Value.ownBlock]⟩
theorem bld_write (w0 : World) (b : Nat) (s t : Str) (w : World) (h : BldS w0.heap.size b s w) (he : Ext w0 w) (hlen : s.size + t.size ≤ 140737488355328) :
    Calls Tryz.prog 79 #[.pointer (some ⟨b, 0, none⟩), .string t] w fun e w' => e = .returned (.tuple #[.int .i64 t.size, .nilIface]) ∧ BldS w0.heap.size b (s ++ t) w' ∧ Ext w0 w' :=
  (writeString w0.heap.size b (Lib.strCells s) t w h (by rw [Lib.strCells_length]; exact hlen) he.size).mono fun e w' ⟨h1, h2, h3⟩ => ⟨h1, .inr (by rw [strCells_app]; exact h2), Below.trans he h3⟩
theorem bld_string (w0 : World) (b : Nat) (s : Str) (w : World) (h : BldS w0.heap.size b s w) (he : Ext w0 w) :
    Calls Tryz.prog 81 #[.pointer (some ⟨b, 0, none⟩)] w fun e w' => e = .returned (.string s) ∧ Ext w0 w' := by
  refine (Tryz.Builder_String_any w0.heap.size b s.data.toList w h he.size).mono ?_
  rintro e w' ⟨h1, h2⟩
  rw [str_data] at h1
  exact ⟨h1, Below.trans he h2⟩
set_option maxRecDepth 100000 in
set_option maxHeartbeats 4000000 in
theorem missing_Text (g : Lg) (fx : List Fx) (v : Value) (A : Option Addr) (c : Nat) (w : World) (hv : LgV w v g) (hf : Rd elFx w A fx) :
    Calls Tryz.prog 18 #[v, .slice A fx.length c] w fun e w' => e = .returned (.tuple #[.string (textL g fx), .int .i64 (checkF g fx)]) ∧ Ext w w' := by
  obtain ⟨A0, c0, A1, c1, A2, c2, rfl, h0, h1, h2, r0, r1, r2⟩ := hv.ex
  have HG : Hid (∀ w2, Ext w w2 → _) := Lib.hid fun w2 (he : Ext w w2) => missing_Gaps g fx _ A c w2 (hv.ext he) (hf.ext he)
  clear hv hf r0 r1 r2
  by_cases hck : checkF g fx = 0
  · obtain ⟨hl, hgs⟩ := gaps_facts hck
    have HGS := Lib.hid hgs
    have HTX : Hid (textL g fx = textG (gapsL g fx)) := Lib.hid rfl
    rw [hck] at HG ⊢
    rw [HTX.out]
    clear hck hgs HTX
    generalize gapsL g fx = l at *
    go_enter Tryz.func18, Tryz.ntmps18
    go_wp2_with (with_reducible refine stop_box ?_)
    refine Stop.go ?_
    refine ev_box3 (c0 := .slice A0 g.known.length c0) (c1 := .slice A1 g.brs.length c1) (c2 := .slice A2 g.evs.length c2) rfl ?_
    intro g1 w1 hb_g1 he hg_g1 k0 k1 k2
    have HE := Lib.hid he
    clear he hb_g1 hg_g1
    go_wp2_with fail
    refine (HG.out w1 HE.out).mono ?_
    rintro e w2 ⟨r, rfl, hown, he2⟩
    obtain ⟨A5, c5, rfl, hc5, hr5⟩ := hown.sl
    have HR5 := Lib.hid hr5
    have HE2 := Lib.hid (HE.out.trans he2)
    clear hown he2 hc5 hr5 HG k0 k1 k2
    go_wp2_with (with_reducible refine stop_alloc ?_)
    refine Stop.go ?_
    refine ev_alloc _ zBld ?_
    intro b w3 hb3 he3 hgb
    have HB3 : Hid (BldS w2.heap.size b (textG (l.take 0)) w3) := Lib.hid (bldS_new hb3 hgb)
    have HE3 := Lib.hid he3
    clear hb3 he3 hgb
    go_wp2
    go_loopw [22] (fun i wr => ∃ k : Nat, k ≤ l.length ∧ i = .int .i64 (k : Int) ∧ Hid (BldS w2.heap.size b (textG (l.take k)) wr) ∧ Hid (Ext w2 wr)) (fun i _ => l.length - (intOf i).toNat)
    case atStart => exact ⟨0, Nat.zero_le _, rfl, HB3.out, HE3.out⟩
    case round =>
      clear HB3 HE3
      obtain ⟨k, hk, rfl, HB, hE⟩ := hrel
      by_cases hlt : k < l.length
      · have hx : l[k]? = some l[k] := List.getElem?_eq_getElem hlt
        obtain ⟨⟨b1, b2, b3, b4⟩, b5⟩ := HGS.out l[k] (List.getElem_mem hlt)
        generalize l[k] = x at hx b1 b2 b3 b4 b5
        have HT := Lib.hid (textG_take hx)
        have hts := textG_size (l.take k) (fun y hy => (HGS.out y (List.mem_of_mem_take hy)).2)
        have htk : (l.take k).length ≤ 240 := by rw [List.length_take]; omega
        obtain ⟨ad, rfl, q0, q1, q2⟩ := (HR5.out.ext hE.out).gp hx
        obtain ⟨xb, xc, xw⟩ := x
        simp only at q0 q1 q2 b1 b2 b3 b4 b5
        obtain ⟨wn, hwn⟩ : ∃ n : Nat, xw = n := ⟨xw.toNat, by omega⟩
        obtain ⟨cn, hcn⟩ : ∃ n : Nat, xc = n := ⟨xc.toNat, by omega⟩
        subst hwn hcn
        have HL : Hid (lineG ⟨xb, (cn : Int), (wn : Int)⟩ = decS wn ++ ⟨#[32]⟩ ++ decS cn ++ ⟨#[32]⟩ ++ xb ++ ⟨#[10]⟩) := Lib.hid rfl
        have HW := Lib.hid (fun w => itoa_small wn (by omega) w)
        have HC := Lib.hid (fun w => itoa_small cn (by omega) w)
        have hs : (textG (l.take k)).size ≤ 240 * 47 := Nat.le_trans hts (Nat.mul_le_mul_right _ htk)
        have s1 := (decS_size wn).2
        have s2 := (decS_size cn).2
        clear hx hts htk b1 b2 b3 b4
        have HTX : Hid (textG (l.take (k + 1)) = textG (l.take k) ++ (decS wn ++ ⟨#[32]⟩ ++ decS cn ++ ⟨#[32]⟩ ++ xb ++ ⟨#[10]⟩)) := Lib.hid (by rw [HT.out, HL.out])
        clear HT HL
        generalize decS wn = d1 at *
        generalize decS cn = d2 at *
        go_wp2_with (first | ((with_reducible refine ev_var (v := .agg #[.string xb, .int .i64 (cn : Int), .int .i64 (wn : Int)]) _ zGp ?hd ?hx ?hs ?h1 ?_); (case hd => exact fun _ => rfl); (case hx => exact fun _ => rfl); (case hs => rfl); (case h1 => exact one3 rfl rfl rfl); intro gx w4 hb he4 hgx; have m0 := (blk_cell hb 0).trans rfl; have m1 := (blk_cell hb 1).trans rfl; have m2 := (blk_cell hb 2).trans rfl; have HE4 := Lib.hid he4; clear hb he4 hgx))
        have HB4 := Lib.hid (HB.out.ext (HE4.out.trans (Ext.refl w4).drew))
        have HE5 := Lib.hid (hE.out.trans (HE4.out.trans (Ext.refl w4).drew))
        clear HB hE HE4 q0 q1 q2
        have z1 : ¬ 9223372036854775807 < ByteArray.size d1 + 1 := by omega
        have z2 : ¬ 9223372036854775807 < ByteArray.size d1 + 1 + ByteArray.size d2 := by omega
        have z3 : ¬ 9223372036854775807 < ByteArray.size d1 + 1 + ByteArray.size d2 + 1 := by omega
        have z4 : ¬ 9223372036854775807 < ByteArray.size d1 + 1 + ByteArray.size d2 + 1 + ByteArray.size xb := by omega
        have z5 : ¬ 9223372036854775807 < ByteArray.size d1 + 1 + ByteArray.size d2 + 1 + ByteArray.size xb + 1 := by omega
        go_still_tail 13, (by kernel_rfl)
        still_call (HW.out _)
        repeat still_step
        still_call (HC.out _)
        repeat still_step
        refine wpStill_nil ?_
        change wpList _ _ _ _ _ w4.drew
        clear m0 m1 m2 HW HC z1 z2 z3 z4 z5
        generalize w4.drew = w5 at HB4 HE5
        have HWR := Lib.hid (bld_write w2 b (textG (l.take k)) (d1 ++ ⟨#[32]⟩ ++ d2 ++ ⟨#[32]⟩ ++ xb ++ ⟨#[10]⟩) w5 HB4.out HE5.out (by
          have e1 : (⟨#[32]⟩ : ByteArray).size = 1 := rfl
          have e2 : (⟨#[10]⟩ : ByteArray).size = 1 := rfl
          simp only [ByteArray.size_append]
          omega))
        go_wp2_with fail
        refine HWR.out.mono ?_
        rintro e w6 ⟨rfl, hb6, he6⟩
        have HB6 : Hid (BldS w2.heap.size b (textG (l.take (k + 1))) w6) := Lib.hid (by rw [HTX.out]; exact hb6)
        have HE6 := Lib.hid he6
        clear hb6 he6 HB4 HE5 HWR
        go_wp2
        go_roundw
        case rel => exact ⟨k + 1, by omega, by go_num, HB6.out, HE6.out⟩
        case measure => simp [intOf]; omega
      · have HR : Hid (BldS w2.heap.size b (textG l) wr) := Lib.hid (by have := HB.out; rw [List.take_of_length_le (by omega)] at this; exact this)
        have HC := Lib.hid (bld_string w2 b (textG l) wr HR.out hE.out)
        clear HB HR hE
        go_wp2_with fail
        refine HC.out.mono ?_
        rintro e w6 ⟨rfl, he6⟩
        have HE6 := Lib.hid (HE2.out.trans he6)
        clear he6 HC
        go_wp2
        go_ret2
        exact ⟨rfl, HE6.out⟩
  · have HTX : Hid (textL g fx = ByteArray.empty) := Lib.hid (by unfold textL; rw [gapsL_nil hck]; rfl)
    have e9 : (checkF g fx != 0) = true := bne_iff_ne.2 hck
    rw [HTX.out]
    clear HTX hck
    generalize checkF g fx = z at *
    go_enter Tryz.func18, Tryz.ntmps18
    go_wp2_with (with_reducible refine stop_box ?_)
    refine Stop.go ?_
    refine ev_box3 (c0 := .slice A0 g.known.length c0) (c1 := .slice A1 g.brs.length c1) (c2 := .slice A2 g.evs.length c2) rfl ?_
    intro g1 w1 hb_g1 he hg_g1 k0 k1 k2
    have HE := Lib.hid he
    clear he hb_g1 hg_g1
    go_wp2_with fail
    refine (HG.out w1 HE.out).mono ?_
    rintro e w2 ⟨r, rfl, hown, he2⟩
    have HE2 := Lib.hid (HE.out.trans he2)
    clear hown he2 HG k0 k1 k2
    go_wp2
    go_ret2
    exact ⟨rfl, HE2.out⟩
end Go.Proofs.YtgibdafkidkahaaGreatDoor
