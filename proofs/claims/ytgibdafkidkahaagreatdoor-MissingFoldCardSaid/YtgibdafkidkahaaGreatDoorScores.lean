/- Derived: walks: the scores of branches, and the worst one. -/
import Derived.Test.YtgibdafkidkahaaGreatDoorMText
set_option linter.unusedVariables false
set_option linter.unusedSimpArgs false
namespace Go.Proofs.YtgibdafkidkahaaGreatDoor
open Go.RowKit

/-- The weights of gaps, by branch, as a map. -/
def scM (l : List Gp) : List (Str × Int) := l.foldl (fun m x => mset m x.br ((mget m x.br).getD 0 + x.wt)) []
theorem scM_snoc (l : List Gp) (x : Gp) : scM (l ++ [x]) = mset (scM l) x.br ((mget (scM l) x.br).getD 0 + x.wt) := by
  unfold scM
  rw [List.foldl_append]
  rfl
theorem scM_get (l : List Gp) (b : Str) : (mget (scM l) b).getD 0 = sumW l b := by
  induction l using snoc_ind with
  | h0 => rfl
  | h1 l x ih =>
    rw [scM_snoc, sumW_snoc, mget_set]
    by_cases h : b = x.br
    · subst h; rw [if_pos rfl, if_pos rfl, ih]; rfl
    · rw [if_neg h, if_neg (Ne.symm h), ih]
theorem scM_take {l : List Gp} {k : Nat} {x : Gp} (h : l[k]? = some x) : scM (l.take (k + 1)) = mset (scM (l.take k)) x.br (sumW (l.take k) x.br + x.wt) := by
  rw [List.take_add_one, h]
  have := scM_snoc (l.take k) x
  rw [scM_get] at this
  exact this
theorem scM_len (l : List Gp) : (scM l).length = 0 ↔ l = [] := by
  constructor
  · intro h
    induction l using snoc_ind with
    | h0 => rfl
    | h1 l x ih =>
      rw [scM_snoc, mset_length] at h
      split at h
      · rename_i hs
        have := ih h
        subst this
        exact absurd hs (by simp [scM, mget_nil])
      · omega
  · rintro rfl; rfl
theorem sumW_bound {l : List Gp} (h : ∀ x ∈ l, GpB x) (b : Str) : 0 ≤ sumW l b ∧ sumW l b ≤ 9 * (l.length : Int) := by
  induction l using snoc_ind with
  | h0 => exact ⟨Int.le_refl _, Int.le_refl _⟩
  | h1 l x ih =>
    have h1 := ih fun y hy => h y (List.mem_append_left _ hy)
    have h2 := h x (List.mem_append_right _ (List.mem_singleton.2 rfl))
    unfold GpB at h2
    rw [sumW_snoc, List.length_append, List.length_singleton]
    split <;> omega
theorem sumW_none {l : List Gp} {b : Str} (h : ∀ x ∈ l, x.br ≠ b) : sumW l b = 0 := by
  induction l using snoc_ind with
  | h0 => rfl
  | h1 l x ih => rw [sumW_snoc, if_neg (h x (List.mem_append_right _ (List.mem_singleton.2 rfl))), ih fun y hy => h y (List.mem_append_left _ hy)]
theorem gap_branch {g : Lg} {fx : List Fx} (h : checkF g fx = 0) : ∀ x ∈ gapsL g fx, ∃ b ∈ g.brs, x.br = b.name := by
  rw [gapsL_ok h]
  have hb := (checkL_zero (checkF_zero h).1).1.1.1.1.2
  intro x hx
  obtain ⟨p, hp, f, _, _, _, rfl⟩ := mem_rawL.1 ((raw_perm (fxOk_of h) (bs_pos hb)).mem_iff.2 hx)
  obtain ⟨b, hb', rfl⟩ := List.mem_map.1 hp
  exact ⟨b, hb', rfl⟩
theorem brs_name {l : List Br} (h : checkB l = 0) : ∀ b ∈ l, b.name ≠ ByteArray.empty := by
  intro b hb he
  obtain ⟨i, hi⟩ := List.getElem?_of_mem hb
  have := (checkB_zero h).2.2.2 i b hi
  simp [badAt] at this
  have h2 := (nameOk_iff b.name).1 (by simpa using this.1.1.1.1)
  rw [he] at h2
  exact absurd h2.1 (by decide)
theorem sumW_empty {g : Lg} {fx : List Fx} (h : checkF g fx = 0) : sumW (gapsL g fx) ByteArray.empty = 0 := by
  refine sumW_none fun x hx => ?_
  obtain ⟨b, hb, e⟩ := gap_branch h x hx
  rw [e]
  exact brs_name (checkL_zero (checkF_zero h).1).1.1.1.1.2 b hb
theorem worst_inv {l : List Gp} (h : sumW l ByteArray.empty = 0) (bs : List Br) : sumW l (worstP l bs).1 = (worstP l bs).2 := by
  induction bs using snoc_ind with
  | h0 => exact h
  | h1 bs b ih =>
    rw [worstP_snoc]
    unfold worstStep
    split
    · rfl
    · exact ih
theorem worst_take {l : List Gp} {bs : List Br} {k : Nat} {b : Br} (h : bs[k]? = some b) : worstP l (bs.take (k + 1)) = worstStep l (worstP l (bs.take k)) b := by
  rw [List.take_add_one, h]
  exact worstP_snoc _ _ _
theorem empty_mk : (⟨#[]⟩ : ByteArray) = ByteArray.empty := rfl
theorem sc_look {w : World} {b : Nat} {m : List (Str × Int)} {k : Str} {n s : Int} (hm : MapSI w b m) (h1 : (mget m k).getD 0 = n) (h2 : s = n) : (Instr.lookup 171 (.map (some b)) (.string k) false).run Tryz.prog w = .ok (.int .i64 s) w := by
  have := MapSI.look hm k
  rwa [h1, ← h2] at this
set_option maxRecDepth 100000 in
set_option maxHeartbeats 4000000 in
theorem missing_scores (g : Lg) (fx : List Fx) (v : Value) (A : Option Addr) (c : Nat) (w : World) (hv : LgV w v g) (hf : Rd elFx w A fx) :
    Calls Tryz.prog 97 #[v, .slice A fx.length c] w fun e w' => ∃ r, e = .returned (.tuple #[r, .int .i64 (checkF g fx)]) ∧ (checkF g fx = 0 → ∃ b, r = .map (some b) ∧ MapSI w' b (scM (gapsL g fx))) ∧ Ext w w' := by
  obtain ⟨A0, c0, A1, c1, A2, c2, rfl, h0, h1, h2, r0, r1, r2⟩ := hv.ex
  have HG : Hid (∀ w2, Ext w w2 → _) := Lib.hid fun w2 (he : Ext w w2) => missing_Gaps g fx _ A c w2 (hv.ext he) (hf.ext he)
  clear hv hf r0 r1 r2
  by_cases hck : checkF g fx = 0
  · obtain ⟨hl, hgs⟩ := gaps_facts hck
    have HGS := Lib.hid hgs
    rw [hck] at HG ⊢
    clear hck hgs
    generalize gapsL g fx = l at *
    go_enter Tryz.func97, Tryz.ntmps97
    go_wp2_with (with_reducible refine stop_box ?_)
    refine Stop.go ?_
    refine ev_box3 (c0 := .slice A0 g.known.length c0) (c1 := .slice A1 g.brs.length c1) (c2 := .slice A2 g.evs.length c2) rfl ?_
    intro g1 w1 hb_g1 he hg_g1 k0 k1 k2
    have HE := Lib.hid he
    clear he hb_g1 hg_g1
    go_wp2_with fail
    refine (HG.out w1 HE.out).mono ?_
    rintro e w2 ⟨r, rfl, hown, he2⟩
    obtain ⟨A5, c5, rfl, hc5, hr5⟩ := hown.sl
    have HR5 := Lib.hid hr5
    have HE2 := Lib.hid (HE.out.trans he2)
    clear hown he2 hc5 hr5 HG k0 k1 k2
    go_wp2_with (with_reducible refine stop_makeMap ?_)
    refine Stop.go ?_
    refine ev_makeMap Tryz.underlying171 ?_
    have hm0 : MapSI (w2.alloc (.map #[] 0)) w2.heap.size (scM (l.take 0)) := isMap_new w2
    have he0 : Ext w2 (w2.alloc (.map #[] 0)) := (Ext.refl w2).alloc _
    generalize w2.alloc (.map #[] 0) = w3 at hm0 he0
    obtain ⟨b, hg⟩ : ∃ b, b = w2.heap.size := ⟨_, rfl⟩
    rw [← hg] at hm0
    rw [← hg]
    have HB : Hid (w2.heap.size ≤ b) := Lib.hid (by omega)
    have HM0 := Lib.hid hm0
    have HE0 := Lib.hid he0
    clear hg hm0 he0
    go_wp2
    go_loopw [23] (fun i wr => ∃ k : Nat, k ≤ l.length ∧ i = .int .i64 (k : Int) ∧ Hid (MapSI wr b (scM (l.take k))) ∧ Hid (Ext w2 wr)) (fun i _ => l.length - (intOf i).toNat)
    case atStart => exact ⟨0, Nat.zero_le _, rfl, HM0.out, HE0.out⟩
    case round =>
      clear HM0 HE0
      obtain ⟨k, hk, rfl, HM, hE⟩ := hrel
      by_cases hlt : k < l.length
      · have hx : l[k]? = some l[k] := List.getElem?_eq_getElem hlt
        obtain ⟨⟨b1, b2, _, _⟩, _⟩ := HGS.out l[k] (List.getElem_mem hlt)
        generalize l[k] = x at hx b1 b2
        have HT := Lib.hid (scM_take hx)
        obtain ⟨s1, s2⟩ := sumW_bound (l := l.take k) (fun y hy => (HGS.out y (List.mem_of_mem_take hy)).1) x.br
        have htk : (l.take k).length ≤ 240 := by rw [List.length_take]; omega
        obtain ⟨ad, rfl, q0, q1, q2⟩ := (HR5.out.ext hE.out).gp hx
        obtain ⟨xb, xc, xw⟩ := x
        simp only at q0 q1 q2 b1 b2 s1 s2
        have HSG := Lib.hid (scM_get (l.take k) xb)
        have HT2 : Hid (scM (l.take (k + 1)) = mset (scM (l.take k)) xb (sumW (l.take k) xb + xw)) := Lib.hid HT.out
        obtain ⟨s, hs⟩ : ∃ s, s = sumW (l.take k) xb := ⟨_, rfl⟩
        rw [← hs] at s1 s2
        have s3 : s ≤ 9 * 240 := by omega
        clear s2 hx htk
        have HS := Lib.hid hs
        clear hs
        go_wp2_with (first | ((with_reducible refine ev_var (v := .agg #[.string xb, .int .i64 xc, .int .i64 xw]) _ zGp ?hd ?hx ?hs ?h1 ?_); (case hd => exact fun _ => rfl); (case hx => exact fun _ => rfl); (case hs => rfl); (case h1 => exact one3 rfl rfl rfl); intro gx w4 hb he4 hgx; have m0 := (blk_cell hb 0).trans rfl; have m1 := (blk_cell hb 1).trans rfl; have m2 := (blk_cell hb 2).trans rfl; have HE4 := Lib.hid he4; have HM4 := Lib.hid (IsMap.ext HM.out he4); have hlk := sc_look HM4.out HSG.out HS.out; clear hb he4 hgx) | (with_reducible refine stop_mapUpdate ?_))
        refine Stop.go ?_
        refine ev_putSI (v := s + xw) rfl rfl rfl (by rfl) HM4.out ?_
        intro w5 hm5 ht5
        have HM5 : Hid (MapSI w5 b (scM (l.take (k + 1)))) := Lib.hid (by rw [HT2.out, ← HS.out]; exact hm5)
        have HE5 := Lib.hid (ht5.ext (hE.out.trans HE4.out) HB.out)
        clear HM hE HE4 HM4 ht5 hm5 q0 q1 q2 m0 m1 m2 HT HT2 hlk
        go_wp2
        go_roundw
        case rel => exact ⟨k + 1, by omega, by go_num, HM5.out, HE5.out⟩
        case measure => simp [intOf]; omega
      · have HR : Hid (MapSI wr b (scM l)) := Lib.hid (by have := HM.out; rw [List.take_of_length_le (by omega)] at this; exact this)
        have HEe : Hid (Ext w wr) := Lib.hid (HE2.out.trans hE.out)
        clear HM
        go_wp2
        go_ret2
        exact ⟨_, rfl, fun _ => ⟨b, rfl, HR.out⟩, HEe.out⟩
  · have e9 : (checkF g fx != 0) = true := bne_iff_ne.2 hck
    have HN := Lib.hid hck
    clear hck
    generalize checkF g fx = z at *
    go_enter Tryz.func97, Tryz.ntmps97
    go_wp2_with (with_reducible refine stop_box ?_)
    refine Stop.go ?_
    refine ev_box3 (c0 := .slice A0 g.known.length c0) (c1 := .slice A1 g.brs.length c1) (c2 := .slice A2 g.evs.length c2) rfl ?_
    intro g1 w1 hb_g1 he hg_g1 k0 k1 k2
    have HE := Lib.hid he
    clear he hb_g1 hg_g1
    go_wp2_with fail
    refine (HG.out w1 HE.out).mono ?_
    rintro e w2 ⟨r, rfl, hown, he2⟩
    have HE2 := Lib.hid (HE.out.trans he2)
    clear hown he2 HG k0 k1 k2
    go_wp2
    go_ret2
    exact ⟨_, rfl, fun h => absurd h HN.out, HE2.out⟩
set_option maxRecDepth 100000 in
set_option maxHeartbeats 4000000 in
theorem missing_Score (g : Lg) (fx : List Fx) (nm : Str) (v : Value) (A : Option Addr) (c : Nat) (w : World) (hv : LgV w v g) (hf : Rd elFx w A fx) :
    Calls Tryz.prog 31 #[v, .slice A fx.length c, .string nm] w fun e w' => e = .returned (.tuple #[.int .i64 (scoreV g fx nm), .int .i64 (scoreE g fx nm)]) ∧ Ext w w' := by
  obtain ⟨A0, c0, A1, c1, A2, c2, rfl, h0, h1, h2, r0, r1, r2⟩ := hv.ex
  have HG : Hid (∀ w2, Ext w w2 → _) := Lib.hid fun w2 (he : Ext w w2) => missing_scores g fx _ A c w2 (hv.ext he) (hf.ext he)
  have HI : Hid (∀ w2, Ext w w2 → _) := Lib.hid fun w2 (he : Ext w w2) => missing_index g nm _ w2 (hv.ext he)
  clear hv hf r0 r1 r2
  go_enter Tryz.func31, Tryz.ntmps31
  go_wp2_with (with_reducible refine stop_box ?_)
  refine Stop.go ?_
  refine ev_box3 (c0 := .slice A0 g.known.length c0) (c1 := .slice A1 g.brs.length c1) (c2 := .slice A2 g.evs.length c2) rfl ?_
  intro g1 w1 hb_g1 he hg_g1 k0 k1 k2
  have HE := Lib.hid he
  clear he hb_g1 hg_g1
  go_wp2_with fail
  refine (HG.out w1 HE.out).mono ?_
  rintro e w2 ⟨r, rfl, hmp, he2⟩
  replace k0 := he2.cell k0
  replace k1 := he2.cell k1
  replace k2 := he2.cell k2
  have HE2 := Lib.hid (HE.out.trans he2)
  clear he2 HG
  by_cases hck : checkF g fx = 0
  · obtain ⟨b, rfl, hm⟩ := hmp hck
    have HM := Lib.hid hm
    have HSE : Hid (scoreE g fx nm = if idx g.brs nm < 0 then 6 else 0) := Lib.hid (by unfold scoreE; rw [if_neg (by simp [hck])])
    rw [hck]
    clear hm hmp hck
    go_wp2_with fail
    refine (HI.out w2 HE2.out).mono ?_
    rintro e w3 ⟨rfl, he3⟩
    have HE3 := Lib.hid (HE2.out.trans he3)
    have HLK := MapSI.look (IsMap.ext HM.out he3) nm
    rw [scM_get] at HLK
    clear he3 HI HM HE2 k0 k1 k2
    by_cases hi : idx g.brs nm < 0
    · have HV1 : Hid (scoreE g fx nm = 6) := Lib.hid (HSE.out.trans (if_pos hi))
      have HV2 : Hid (scoreV g fx nm = 0) := Lib.hid (by unfold scoreV; rw [HV1.out]; rfl)
      clear HSE
      go_wp2
      go_ret2
      exact ⟨by rw [HV1.out, HV2.out]; rfl, HE3.out⟩
    · have HV1 : Hid (scoreE g fx nm = 0) := Lib.hid (HSE.out.trans (if_neg hi))
      have HV2 : Hid (scoreV g fx nm = sumW (gapsL g fx) nm) := Lib.hid (by unfold scoreV; rw [HV1.out]; rfl)
      clear HSE
      go_wp2
      go_ret2
      exact ⟨by rw [HV1.out, HV2.out]; rfl, HE3.out⟩
  · have HV1 : Hid (scoreE g fx nm = checkF g fx) := Lib.hid (by unfold scoreE; rw [if_pos hck])
    have HV2 : Hid (scoreV g fx nm = 0) := Lib.hid (by unfold scoreV; rw [HV1.out, if_neg hck])
    have e9 : (checkF g fx != 0) = true := bne_iff_ne.2 hck
    clear hck hmp HI
    generalize checkF g fx = z at *
    go_wp2
    go_ret2
    exact ⟨by rw [HV1.out, HV2.out]; rfl, HE2.out⟩
set_option maxRecDepth 100000 in
set_option maxHeartbeats 4000000 in
theorem missing_Worst (g : Lg) (fx : List Fx) (v : Value) (A : Option Addr) (c : Nat) (w : World) (hv : LgV w v g) (hf : Rd elFx w A fx) :
    Calls Tryz.prog 30 #[v, .slice A fx.length c] w fun e w' => e = .returned (.tuple #[.string (worstV g fx).1, .int .i64 (worstV g fx).2, .int .i64 (worstE g fx)]) ∧ Ext w w' := by
  obtain ⟨A0, c0, A1, c1, A2, c2, rfl, h0, h1, h2, r0, r1, r2⟩ := hv.ex
  have HG : Hid (∀ w2, Ext w w2 → _) := Lib.hid fun w2 (he : Ext w w2) => missing_scores g fx _ A c w2 (hv.ext he) (hf.ext he)
  have R1 := Lib.hid r1
  clear hv hf r0 r1 r2
  go_enter Tryz.func30, Tryz.ntmps30
  go_wp2_with (with_reducible refine stop_box ?_)
  refine Stop.go ?_
  refine ev_box3 (c0 := .slice A0 g.known.length c0) (c1 := .slice A1 g.brs.length c1) (c2 := .slice A2 g.evs.length c2) rfl ?_
  intro g1 w1 hb_g1 he hg_g1 k0 k1 k2
  have HE := Lib.hid he
  clear he hb_g1 hg_g1
  go_wp2_with fail
  refine (HG.out w1 HE.out).mono ?_
  rintro e w2 ⟨r, rfl, hmp, he2⟩
  replace k0 := he2.cell k0
  replace k1 := he2.cell k1
  replace k2 := he2.cell k2
  have HE2 := Lib.hid (HE.out.trans he2)
  clear he2 HG
  by_cases hck : checkF g fx = 0
  · obtain ⟨b, rfl, hm⟩ := hmp hck
    have hb8 : g.brs.length ≤ 8 := (checkB_zero (checkL_zero (checkF_zero hck).1).1.1.1.1.2).1
    have HSE : Hid (worstE g fx = if gapsL g fx = [] then 6 else 0) := Lib.hid (by unfold worstE; rw [if_neg (by simp [hck])])
    have HWV : Hid (worstE g fx = 0 → worstV g fx = worstP (gapsL g fx) g.brs) := Lib.hid fun h => by unfold worstV; rw [if_pos h]
    have HWN : Hid (worstE g fx = 6 → worstV g fx = (ByteArray.empty, 0)) := Lib.hid fun h => by unfold worstV; rw [if_neg (by rw [h]; decide)]
    have HEM := Lib.hid (sumW_empty hck)
    have HM := Lib.hid hm
    have hlen : ∀ ty, (Builtin.len_ #[171] ty #[.map (some b)]).run Tryz.prog w2 = .ok (.int .i64 ((scM (gapsL g fx)).length : Nat)) w2 := fun ty => run_mlen Tryz.underlying171 hm ty
    rw [hck]
    clear hm hmp hck
    have HSL := Lib.hid (scM_len (gapsL g fx))
    obtain ⟨l, hl0⟩ : ∃ l, l = gapsL g fx := ⟨_, rfl⟩
    rw [← hl0] at HSE HWV HEM HM hlen HSL
    clear hl0
    by_cases hl : l = []
    · have e0 : (scM l).length = 0 := HSL.out.2 hl
      have HV1 : Hid (worstE g fx = 6) := Lib.hid (HSE.out.trans (if_pos hl))
      have HV2 : Hid (worstV g fx = (ByteArray.empty, 0)) := Lib.hid (HWN.out HV1.out)
      rw [e0] at hlen
      clear HSE HWV HWN HSL hl e0
      go_wp2
      go_ret3
      exact ⟨by rw [HV1.out, HV2.out]; rfl, HE2.out⟩
    · have e0 : (scM l).length ≠ 0 := fun h => hl (HSL.out.1 h)
      have HV1 : Hid (worstE g fx = 0) := Lib.hid (HSE.out.trans (if_neg hl))
      have HV2 : Hid (worstV g fx = worstP l g.brs) := Lib.hid (HWV.out HV1.out)
      obtain ⟨n, hn⟩ : ∃ n, n = (scM l).length := ⟨_, rfl⟩
      rw [← hn] at hlen e0
      have e9 : ((n : Int) == 0) = false := beq_eq_false_iff_ne.2 (by omega)
      clear HSE HWV HWN HSL hl hn
      go_wp2
      go_loopw [9, 27] (fun m i wr => ∃ k : Nat, k ≤ g.brs.length ∧ i = .int .i64 (k : Int) ∧ m = .string (worstP l (g.brs.take k)).1 ∧ Hid (Ext w2 wr)) (fun _ i _ => g.brs.length - (intOf i).toNat)
      case atStart => exact ⟨0, Nat.zero_le _, rfl, rfl, Ext.refl _⟩
      case round =>
        clear hlen k0 k1 k2
        obtain ⟨k, hk, rfl, rfl, hE⟩ := hrel
        by_cases hlt : k < g.brs.length
        · have hx : g.brs[k]? = some g.brs[k] := List.getElem?_eq_getElem hlt
          generalize g.brs[k] = x at hx
          obtain ⟨ad, rfl, q0, q1, q2⟩ := (R1.out.ext (HE2.out.trans hE.out)).br hx
          have HT := Lib.hid (worst_take (l := l) hx)
          have HSG := Lib.hid (scM_get l)
          have HIN := Lib.hid (worst_inv HEM.out (g.brs.take k))
          have HSTEP : Hid (worstStep l (worstP l (g.brs.take k)) x = if (worstP l (g.brs.take k)).2 < sumW l x.name then (x.name, sumW l x.name) else worstP l (g.brs.take k)) := Lib.hid rfl
          have HMr := Lib.hid (IsMap.ext HM.out hE.out)
          clear hx
          generalize worstP l (g.brs.take k) = p at *
          obtain ⟨p1, p2⟩ := p
          obtain ⟨xn, xf, xa⟩ := x
          simp only at q0 q1 q2 HIN HSTEP
          obtain ⟨s, hs⟩ : ∃ s, s = sumW l xn := ⟨_, rfl⟩
          have HS := Lib.hid hs
          have HIN2 : Hid (p2 = sumW l p1) := Lib.hid HIN.out.symm
          clear hs
          by_cases hlt2 : p2 < s
          · have HT3 : Hid (worstP l (g.brs.take (k + 1)) = (xn, s)) := Lib.hid (by rw [HT.out, HSTEP.out, ← HS.out, if_pos hlt2])
            go_wp2_with (first | ((with_reducible refine ev_var (v := .agg #[.string xn, .string xf, .int .i64 xa]) _ zBr ?hd ?hx ?hs ?h1 ?_); (case hd => exact fun _ => rfl); (case hx => exact fun _ => rfl); (case hs => rfl); (case h1 => exact one3 rfl rfl rfl); intro gx w4 hb he4 hgx; have m0 := (blk_cell hb 0).trans rfl; have m1 := (blk_cell hb 1).trans rfl; have m2 := (blk_cell hb 2).trans rfl; have HE4 := Lib.hid (hE.out.trans he4); have hlk := sc_look (IsMap.ext HMr.out he4) (HSG.out xn) HS.out; have hlk2 := sc_look (IsMap.ext HMr.out he4) (HSG.out p1) HIN2.out; clear hb he4 hgx))
            clear HT HSTEP HSG HIN HIN2 HS HMr hE q0 q1 q2
            go_roundw
            case rel => exact ⟨k + 1, by omega, by go_num, by rw [HT3.out], HE4.out⟩
            case measure => simp [intOf]; omega
          · have HT3 : Hid (worstP l (g.brs.take (k + 1)) = (p1, p2)) := Lib.hid (by rw [HT.out, HSTEP.out, ← HS.out, if_neg hlt2])
            go_wp2_with (first | ((with_reducible refine ev_var (v := .agg #[.string xn, .string xf, .int .i64 xa]) _ zBr ?hd ?hx ?hs ?h1 ?_); (case hd => exact fun _ => rfl); (case hx => exact fun _ => rfl); (case hs => rfl); (case h1 => exact one3 rfl rfl rfl); intro gx w4 hb he4 hgx; have m0 := (blk_cell hb 0).trans rfl; have m1 := (blk_cell hb 1).trans rfl; have m2 := (blk_cell hb 2).trans rfl; have HE4 := Lib.hid (hE.out.trans he4); have hlk := sc_look (IsMap.ext HMr.out he4) (HSG.out xn) HS.out; have hlk2 := sc_look (IsMap.ext HMr.out he4) (HSG.out p1) HIN2.out; clear hb he4 hgx))
            clear HT HSTEP HSG HIN HIN2 HS HMr hE q0 q1 q2
            go_roundw
            case rel => exact ⟨k + 1, by omega, by go_num, by rw [HT3.out], HE4.out⟩
            case measure => simp [intOf]; omega
        · have HIN := worst_inv HEM.out g.brs
          have hlk : ∀ y : Up wr, _ := fun y : Up wr => sc_look (IsMap.ext HM.out (hE.out.trans y.ext)) (scM_get l (worstP l g.brs).1) HIN.symm
          have HEe : Hid (Ext w wr) := Lib.hid (HE2.out.trans hE.out)
          rw [List.take_of_length_le (by omega)]
          clear HIN HM HEM hE
          generalize worstP l g.brs = p at *
          obtain ⟨p1, p2⟩ := p
          simp only at hlk
          go_wp2_with fail
          refine wp_quietU (by kernel_rfl) (by kernel_rfl) ?_
          repeat (go_big_quiet_step (fail))
          refine wpQuiet_nil ?_
          rintro _ ⟨y, rfl⟩
          have HEy : Hid (Ext w y.u) := Lib.hid (HEe.out.trans y.ext)
          go_wp2
          go_ret3
          exact ⟨by rw [HV1.out, HV2.out]; rfl, HEy.out⟩
  · have HV1 : Hid (worstE g fx = checkF g fx) := Lib.hid (by unfold worstE; rw [if_pos hck])
    have HV2 : Hid (worstV g fx = (ByteArray.empty, 0)) := Lib.hid (by unfold worstV; rw [HV1.out, if_neg hck])
    have e9 : (checkF g fx != 0) = true := bne_iff_ne.2 hck
    clear hck hmp
    generalize checkF g fx = z at *
    go_wp2
    go_ret3
    exact ⟨by rw [HV1.out, HV2.out]; rfl, HE2.out⟩
end Go.Proofs.YtgibdafkidkahaaGreatDoor
