/- Derived: walks: the state behind some marks. -/
import Derived.Test.YtgibdafkidkahaaGreatDoorState
import Derived.Test.YtgibdafkidkahaaGreatDoorLed5
set_option linter.unusedVariables false
set_option linter.unusedSimpArgs false
namespace Go.Proofs.YtgibdafkidkahaaGreatDoor
open Go.RowKit

def seenF (g : Lg) (s : List Ev) : Nat → Bool := fun c => seenP g s (c : Int)
def innF (g : Lg) (s : List Ev) : Nat → Bool := fun c => inP g s (c : Int)
theorem seenF_snoc {g : Lg} {s : List Ev} {e : Ev} {c : Nat} (h : cls g e.chg = c) : seenF g (s ++ [e]) = upd (seenF g s) c true := by
  funext k
  unfold seenF upd
  rw [seenP_snoc, h]
  by_cases hk : k = c
  · subst hk; simp
  · rw [if_neg (by omega), if_neg hk]
theorem innF_snoc {g : Lg} {s : List Ev} {e : Ev} {c : Nat} (h : cls g e.chg = c) : innF g (s ++ [e]) = upd (innF g s) c (decide (e.kind ≠ 3)) := by
  funext k
  unfold innF upd
  rw [inP_snoc, h]
  by_cases hk : k = c
  · subst hk; simp
  · rw [if_neg (by omega), if_neg hk]
theorem cls_map {g : Lg} (hn : NoDup g.known) {s : Str} (h : 0 ≤ cls g s) : mget (clsMap g.known) s = some (cls g s) := by
  refine (clsMap_cls hn s).2 ?_
  rcases cls_cases g s with ⟨h1, _⟩ | ⟨x, hx, he, _⟩
  · omega
  · exact ⟨x, hx, he⟩
theorem zSt : (Tryz.prog.info? 215).map (fun i => i.zero) = some (some (.agg (stCells (fun _ => false) (fun _ => false)).toArray)) := by kernel_rfl
theorem zEv1 : (Tryz.prog.info? 76).map (fun i => i.zero) = some (some (.agg #[.int .u8 0, .string ⟨#[]⟩])) := by kernel_rfl
/-- Marks whose events are as they should be. -/
def MkCls (g : Lg) (m : Mk) : Prop := MkOk g m ∧ 0 ≤ cls g (evAt g m).chg ∧ cls g (evAt g m).chg < 30
set_option maxRecDepth 100000 in
set_option maxHeartbeats 4000000 in
theorem ledger_folded (g : Lg) (v : List Mk) (gv : Value) (A : Option Addr) (c : Nat) (w : World) (hv : LgV w gv g) (hs : Rd elMk w A v) (hc : v.length ≤ c) (hok : ∀ m ∈ v, MkCls g m) (hnd : NoDup g.known) :
    Calls Tryz.prog 106 #[gv, .slice A v.length c] w fun e w' => ∃ b, e = .returned (.pointer (some ⟨b, 0, none⟩)) ∧ St w' b (seenF g (evsOf g v)) (innF g (evsOf g v)) ∧ w.heap.size ≤ b ∧ Ext w w' := by
  obtain ⟨A0, c0, A1, c1, A2, c2, rfl, h0, h1, h2, r0, r1, r2⟩ := hv.ex
  have hvl9 := hs.1
  go_enter Tryz.func106, Tryz.ntmps106
  go_wp2_with (with_reducible refine stop_box ?_)
  refine Stop.go ?_
  refine ev_box3 (c0 := .slice A0 g.known.length c0) (c1 := .slice A1 g.brs.length c1) (c2 := .slice A2 g.evs.length c2) rfl ?_
  intro g1 w1 hb_g1 he hg_g1 k0 k1 k2
  have HE := Lib.hid he
  have HV := Lib.hid (hv.ext he)
  have R2 := Lib.hid (r2.ext he)
  have HS := Lib.hid (hs.ext he)
  clear he r0 r1 r2 hv hb_g1 hg_g1 hs
  go_wp2_with (with_reducible refine stop_alloc ?_)
  refine Stop.go ?_
  refine ev_alloc _ zSt ?_
  intro b w2 hb he2 hgb
  have hst : St w2 b (seenF g (evsOf g (v.take 0))) (innF g (evsOf g (v.take 0))) := hb
  have HST := Lib.hid hst
  have HB := Lib.hid hgb
  have HE2 := Lib.hid he2
  have HBS : Hid (b < w2.heap.size) := Lib.hid (blk_lt hb)
  have k0' := he2.cell k0
  have k1' := he2.cell k1
  have k2' := he2.cell k2
  have HCL := Lib.hid (ledger_classes g _ w2 (HV.out.ext he2))
  clear hst hb he2 hgb
  go_wp2_with fail
  refine HCL.out.mono ?_
  rintro e w3 ⟨bm, rfl, hm3, hbm, he3⟩
  have HM := Lib.hid hm3
  have HNE : Hid (bm ≠ b) := Lib.hid (by have := HBS.out; omega)
  have HST3 : Hid (St w3 b (seenF g (evsOf g (v.take 0))) (innF g (evsOf g (v.take 0)))) := Lib.hid (he3.blk HST.out)
  have HE3 := Lib.hid (HE2.out.trans he3)
  clear hm3 hbm he3 HST HBS HE2 HCL k0' k1' k2'
  go_wp2
  go_loopw [15] (fun i wr => ∃ k : Nat, k ≤ v.length ∧ i = .int .i64 (k : Int) ∧ Hid (St wr b (seenF g (evsOf g (v.take k))) (innF g (evsOf g (v.take k)))) ∧ Hid (MapSI wr bm (clsMap g.known)) ∧ Hid (Ext w1 wr)) (fun i _ => v.length - (intOf i).toNat)
  case atStart => exact ⟨0, Nat.zero_le _, rfl, HST3.out, HM.out, HE3.out⟩
  case round =>
    clear HST3 HM HE3
    obtain ⟨k, hk, rfl, HST, HM, hE⟩ := hrel
    by_cases hlt : k < v.length
    · have hx : v[k]? = some v[k] := List.getElem?_eq_getElem hlt
      have hmk := hok v[k] (List.getElem_mem hlt)
      generalize v[k] = m at hx hmk
      obtain ⟨i, j, own, ev, hi, hj, hown, hev, hat⟩ := hmk.1.get
      obtain ⟨ad, e0, q0, q1⟩ := (HS.out.ext hE.out).mk hx
      obtain ⟨ad2, D, cD, e1, q2, hcD, q3⟩ := (R2.out.ext hE.out).sub hown
      obtain ⟨ad3, e2, q4, q5⟩ := q3.ev hev
      cases e0
      cases e1
      cases e2
      have hil : i < g.evs.length := (List.getElem?_eq_some_iff.1 hown).1
      have hjl : j < own.length := (List.getElem?_eq_some_iff.1 hev).1
      have hT : evsOf g (v.take (k + 1)) = evsOf g (v.take k) ++ [ev] := by rw [evsOf_take_succ hx, hat]
      have hc0 := hmk.2.1
      have hc1 := hmk.2.2
      rw [hat] at hc0 hc1
      obtain ⟨cc, hcc⟩ : ∃ cc : Nat, cls g ev.chg = cc := ⟨(cls g ev.chg).toNat, by omega⟩
      have HG := Lib.hid ((cls_map hnd hc0).trans (by rw [hcc]))
      have hcc30 : cc < 30 := by omega
      have HSN := Lib.hid (hT ▸ seenF_snoc (s := evsOf g (v.take k)) hcc)
      have HIN := Lib.hid (hT ▸ innF_snoc (s := evsOf g (v.take k)) hcc)
      have HI := Lib.hid hi
      have HJ := Lib.hid hj
      have k2' := hE.out.cell k2
      rw [hi] at q0
      rw [hj] at q1
      have HQ : Hid (wr.cell? ⟨(ad.add (k * 2)).block, (ad.add (k * 2)).off + 1, none⟩ = some (.int .i64 (j : Int))) := Lib.hid q1
      clear hx hmk hown hev hat hT hc0 hc1 hcc hcD hi hj q3
      go_wp2_with (first | ((with_reducible refine ev_var (v := .agg #[.int .i64 (i : Int), .int .i64 (j : Int)]) _ zMk ?hd ?hx ?hs ?h1 ?_); (case hd => exact fun _ => rfl); (case hx => exact fun _ => rfl); (case hs => rfl); (case h1 => exact one2 rfl rfl); intro gx w4 hb he hgx))
      have m0 := (blk_cell hb 0).trans rfl
      have m1 := (blk_cell hb 1).trans rfl
      have p2 := he.cell k2'
      have p4 := he.cell q2
      have p5 := he.cell q4
      have p6 := he.cell q5
      have y0 : ∀ y : Up w4, y.u.cell? _ = _ := fun y => y.ext.cell m0
      have y1 : ∀ y : Up w4, y.u.cell? _ = _ := fun y => y.ext.cell m1
      have y2 : ∀ y : Up w4, y.u.cell? _ = _ := fun y => y.ext.cell p2
      have y4 : ∀ y : Up w4, y.u.cell? _ = _ := fun y => y.ext.cell p4
      have y5 : ∀ y : Up w4, y.u.cell? _ = _ := fun y => y.ext.cell p5
      have y6 : ∀ y : Up w4, y.u.cell? _ = _ := fun y => y.ext.cell p6
      have HST4 : Hid (St w4 b (seenF g (evsOf g (v.take k))) (innF g (evsOf g (v.take k)))) := Lib.hid (he.blk HST.out)
      have HM4 : Hid (MapSI w4 bm (clsMap g.known)) := Lib.hid (IsMap.ext HM.out he)
      have HE4 : Hid (Ext w1 w4) := Lib.hid (hE.out.trans he)
      clear hb he hgx m0 m1 p2 p4 p5 p6 q0 q1 q2 q4 q5 k2' HQ HST HM hE
      refine wp_region_planU [(true, 0), (true, 1), (true, 2), (true, 3), (true, 4), (true, 5), (true, 6), (true, 7), (true, 8), (true, 9), (false, 10), (false, 11)] (by kernel_rfl) (by kernel_rfl) ?_
      iterate 10 ((try go_frame); refine plan_read ?_; go_big_quiet_step (fail); refine wpQuiet_nil ?_)
      refine plan_pair rfl rfl (Ext.refl w4).drew (fun n w1 h => alloc_ext zEv1 h) ?_
      refine ev_var (v := .agg #[.int .u8 ev.kind, .string ev.chg]) _ zEv (fun _ => rfl) (fun _ => rfl) rfl (one2 rfl rfl) ?_
      intro ge w5 hb5 he5 hge
      refine ⟨(Ext.refl w4).drew.trans he5, ?_⟩
      refine plan_end ?_
      have hE5 : Ext w4 w5 := (Ext.refl w4).drew.trans he5
      have m0 := (blk_cell hb5 0).trans rfl
      have m1 := (blk_cell hb5 1).trans rfl
      have HST5 : Hid (St w5 b (seenF g (evsOf g (v.take k))) (innF g (evsOf g (v.take k)))) := Lib.hid (hE5.blk HST4.out)
      have HM5 : Hid (MapSI w5 bm (clsMap g.known)) := Lib.hid (IsMap.ext HM4.out hE5)
      have HE5 : Hid (Ext w1 w5) := Lib.hid (HE4.out.trans hE5)
      have hlk : (Instr.lookup 171 (.map (some bm)) (.string ev.chg) false).run Tryz.prog w5 = .ok (.int .i64 (cc : Int)) w5 := by
        have := MapSI.look HM5.out ev.chg
        rw [HG.out] at this
        exact this
      clear hb5 he5 hge hE5 HST4 HM4 HE4 y0 y1 y2 y4 y5 y6
      go_wp2_with fail
      refine (state_put b cc _ _ ev.kind w5 HST5.out hcc30).mono ?_
      rintro e w6 ⟨rfl, hs6, ht6⟩
      have HST6 : Hid (St w6 b (seenF g (evsOf g (v.take (k + 1)))) (innF g (evsOf g (v.take (k + 1))))) := Lib.hid (by rw [HSN.out, HIN.out]; exact hs6)
      have HM6 : Hid (MapSI w6 bm (clsMap g.known)) := Lib.hid (IsMap.turned HM5.out ht6 HNE.out)
      have HE6 : Hid (Ext w1 w6) := Lib.hid (ht6.ext HE5.out HB.out)
      clear hs6 ht6 HST5 HM5 HE5 m0 m1 hlk HG HSN HIN
      go_wp2
      go_roundw
      case rel => exact ⟨k + 1, by omega, by go_num, HST6.out, HM6.out, HE6.out⟩
      case measure => simp [intOf]; omega
    · have HST2 : Hid (St wr b (seenF g (evsOf g v)) (innF g (evsOf g v))) := Lib.hid (by have := HST.out; rw [List.take_of_length_le (by omega)] at this; exact this)
      have HB2 : Hid (w.heap.size ≤ b) := Lib.hid (Nat.le_trans HE.out.size HB.out)
      have HE2 : Hid (Ext w wr) := Lib.hid (HE.out.trans hE.out)
      clear HST
      go_wp2
      go_ret
      exact ⟨_, rfl, HST2.out, HB2.out, HE2.out⟩
end Go.Proofs.YtgibdafkidkahaaGreatDoor
