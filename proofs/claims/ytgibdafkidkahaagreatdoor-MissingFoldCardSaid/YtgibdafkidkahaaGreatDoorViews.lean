/- Derived: walks: all views of a table. -/
import Derived.Test.YtgibdafkidkahaaGreatDoorOwn
import Derived.Test.YtgibdafkidkahaaGreatDoorIdx
import Derived.Outline
set_option linter.unusedVariables false
set_option linter.unusedSimpArgs false
namespace Go.Proofs.YtgibdafkidkahaaGreatDoor
open Go.RowKit

/-- Counts as they should be. -/
def CntOk (l : List Br) (cnt : List Int) : Prop := cnt.length = l.length ∧ ∀ (i : Nat) (y : Int), cnt[i]? = some y → 0 ≤ y ∧ y ≤ 40

set_option maxRecDepth 100000 in
set_option maxHeartbeats 8000000 in
theorem ref26_views (l : List Br) (cnt : List Int) (A A2 : Option Addr) (c c2 : Nat) (w : World) (hl : Rd elBr w A l) (hr2 : Rd elInt w A2 cnt) (hck : checkB l = 0) (hcnt : CntOk l cnt) :
    Calls Tryz.prog 101 #[.slice A l.length c, .slice A2 cnt.length c2] w fun e w' => ∃ r, e = .returned (.tuple #[r, .bool (fitsOk l cnt)]) ∧ (fitsOk l cnt = true → Fresh (El.sl elMk) w.heap.size w' r (vws l cnt l.length)) ∧ Ext w w' := by
  have hl8 := (checkB_zero hck).1
  have hcl : l.length ≤ cnt.length := by have := hcnt.1; omega
  go_enter Tryz.func101, Tryz.ntmps101
  go_wp2
  go_loopw [6, 7] (fun o i wr => ∃ k : Nat, k ≤ l.length ∧ i = .int .i64 k ∧ Hid (Own (El.sl elMk) 67 w.heap.size wr o (vws l cnt k)) ∧ Hid (∀ j, j < k → vok l cnt j = true) ∧ Hid (Ext w wr)) (fun _ i _ => l.length - (intOf i).toNat)
  case atStart => exact ⟨0, Nat.zero_le _, rfl, Own.nil _ _ _ _, fun j hj => absurd hj (by omega), Ext.refl _⟩
  case round =>
    obtain ⟨k, hk, rfl, HO, hn, hE⟩ := hrel
    obtain ⟨wo, hwo⟩ : ∃ wo : World, wo = wr := ⟨_, rfl⟩
    subst hwo
    by_cases hlt : k < l.length
    · have hx : l[k]? = some l[k] := List.getElem?_eq_getElem hlt
      generalize l[k] = x at hx
      have hy : cnt[k]? = some cnt[k] := List.getElem?_eq_getElem (by omega)
      generalize cnt[k] = y at hy
      have hyr := hcnt.2 k y hy
      obtain ⟨n, hyn⟩ : ∃ n : Nat, y = n := ⟨y.toNat, by omega⟩
      subst hyn
      obtain ⟨ad, e0, h0, h1, h2⟩ := (hl.ext hE.out).br hx
      obtain ⟨ad2, e1, h3⟩ := (hr2.ext hE.out).int hy
      have HX := Lib.hid hx
      have HY := Lib.hid hy
      cases e0
      cases e1
      have hvl : (vws l cnt k).length ≤ k := by rw [vws_length]; omega
      have hgx : l.getD k default = x := by rw [List.getD_eq_getElem?_getD, hx]; rfl
      have hgy : (cnt.getD k 0).toNat = n := by rw [List.getD_eq_getElem?_getD, hy]; rfl
      have hstep : ∃ pre : List Mk, pre.length ≤ 320 ∧ vwStep l cnt (vws l cnt k) k = pre ++ ownMks k n ∧ pre = (if k = 0 then [] else (stem l (vws l cnt k) k).take x.at_.toNat) := by
        refine ⟨_, ?_, ?_, rfl⟩
        · have := (at_range hck hx).2.1
          split
          · simp
          · rw [List.length_take]; omega
        · unfold vwStep; rw [hgx, hgy]
      obtain ⟨pre, hpl, hst, hpre⟩ := hstep
      have HST := Lib.hid hst
      have HGX := Lib.hid hgx
      clear hst hgx hgy hy
      have hm320 := (at_range hck hx).2.1
      rcases (show k = 0 ∨ k ≠ 0 by omega) with hk0 | hk0
      · have hk1 : ¬ (0 : Int) < (k : Int) := by omega
        have hv : vok l cnt k = true := by simp [vok, hk0]
        have HV := Lib.hid hv
        rw [if_pos hk0] at hpre
        have HK0 := Lib.hid hk0
        have HPRE : Hid (Own elMk 109 wo.heap.size wo (.slice none 0 0) pre) := Lib.hid (by rw [hpre]; exact Own.nil _ _ _ _)
        have HEc : Hid (Ext wo wo) := Lib.hid (Ext.refl wo)
        clear hx hk0 hv hpre h0 h1 h2 hm320
        go_wp2
        try go_frame
        go_loopw [8, 10] (fun v i wc => ∃ j : Nat, j ≤ n ∧ i = .int .i64 j ∧ Hid (Own elMk 109 wo.heap.size wc v (pre ++ ownMks k j)) ∧ Hid (Ext wo wc)) (fun _ i _ => n - (intOf i).toNat)
        case atStart => exact ⟨0, Nat.zero_le _, rfl, by rw [show pre ++ ownMks k 0 = pre by simp [ownMks]]; exact HPRE.out, HEc.out⟩
        case round =>
          clear HPRE HEc
          obtain ⟨j', hj', rfl, HP, HEi⟩ := hrel
          have h3' := HEi.out.cell h3
          by_cases hlt2 : j' < n
          · go_wp2_with (with_reducible refine stop_lit ?_)
            refine Stop.go ?_
            refine ev_appMk ⟨(k : Int), (j' : Int)⟩ rfl (fun _ => rfl) (fun _ => rfl) HP.out HEi.out rfl (by rw [List.length_append, ownMks_length]; omega) ?_
            intro u v2 w2 ho2 he2 _ _
            have HO2 : Hid (Own elMk 109 wo.heap.size w2 v2 (pre ++ ownMks k (j' + 1))) := Lib.hid (by rw [ownMks_succ, ← List.append_assoc]; exact ho2)
            have HE2 := Lib.hid he2
            clear ho2 he2 HP HEi h3'
            go_wp2
            go_roundw
            case rel => exact ⟨j' + 1, by omega, by go_num, HO2.out, HE2.out⟩
            case measure => simp [intOf]; omega
          · have hjn : j' = n := by omega
            have HP2 : Hid (Own elMk 109 wo.heap.size wr _ (vwStep l cnt (vws l cnt k) k)) := Lib.hid (by rw [HST.out, ← hjn]; exact HP.out)
            clear hjn HP
            obtain ⟨A3, c3, hv3, hc3⟩ := HP2.out.form
            subst hv3
            go_wp2_with (with_reducible refine stop_lit ?_)
            refine Stop.go ?_
            refine ev_appMks (xs := vws l cnt k) (vwStep l cnt (vws l cnt k) k) rfl (fun _ => rfl) (fun _ => rfl) (HO.out.ext HEi.out) (hE.out.trans HEi.out) rfl (El.mono _ (fun b hb => ⟨Nat.le_trans hE.out.size hb, fun e => by have := (HO.out.blk b e).2; omega⟩) HP2.out.k) (by omega) ?_
            intro u v2 w2 ho2 he2
            have HO2 := Lib.hid ho2
            have HE2 := Lib.hid he2
            clear ho2 he2 HP2 HEi h3' hlt2
            go_wp2
            go_roundw
            case rel =>
              refine ⟨k + 1, by omega, by go_num, HO2.out, ?_, HE2.out⟩
              intro i hi
              rcases Nat.lt_succ_iff_lt_or_eq.1 hi with h | rfl
              · exact hn.out i h
              · exact HV.out
            case measure => simp [intOf]; omega
      · have hpos : (0 : Int) < (k : Int) := by omega
        rw [if_neg hk0] at hpre
        obtain ⟨hi0, hik⟩ := idx_from hck hx (by omega)
        obtain ⟨ha0, ha1, _⟩ := at_range hck hx
        obtain ⟨m, hm⟩ : ∃ m : Nat, x.at_ = m := ⟨x.at_.toNat, by omega⟩
        obtain ⟨j, hj⟩ : ∃ j : Nat, idx l x.frm = j := ⟨(idx l x.frm).toNat, by omega⟩
        rw [hm] at h2 hm320
        clear hx
        have hjk : j < k := by omega
        have hsub := vws_get (l := l) (cnt := cnt) hjk
        have hstem : stem l (vws l cnt k) k = vwStep l cnt (vws l cnt j) j := by
          unfold stem
          rw [HGX.out, hj, List.getD_eq_getElem?_getD, Int.toNat_natCast, hsub]; rfl
        obtain ⟨Ao, co, rfl, hco, hro⟩ := HO.out.sl
        obtain ⟨adO, D, cD, rfl, q0, q1, q2⟩ := hro.sub hsub
        rw [hstem, hm, Int.toNat_natCast] at hpre
        have hvk : vok l cnt k = decide (m ≤ (vwStep l cnt (vws l cnt j) j).length) := by
          unfold vok
          rw [HGX.out, hstem, hm]
          simp [hk0]
        generalize vwStep l cnt (vws l cnt j) j = vj at q0 q1 q2 hpre hvk
        have HPR := Lib.hid hpre
        have HVK := Lib.hid hvk
        have HK0 := Lib.hid hk0
        have HC : Hid (∀ w2, Ext w w2 → Calls Tryz.prog 100 #[.slice (some ad) l.length c, .string x.frm] w2 fun e w' => e = .returned (.int .i64 (j : Int)) ∧ w2 = w') := Lib.hid fun w2 h => hj ▸ ref26_Index l x.frm _ c w2 (hl.ext h)
        have hjv : j < (vws l cnt k).length := by rw [vws_length]; exact hjk
        clear hj hm hsub hi0 hik ha0 ha1 hro hpre hvk hk0 hstem
        by_cases hfit : vj.length < m
        · go_wp2_with (first | (go_at_call 100; refine (HC.out _ hE.out).mono ?_; rintro e w' ⟨rfl, rfl⟩))
          go_ret2
          have hf : fitsOk l cnt = false := fitsOk_f hlt (by rw [HVK.out]; simp; omega)
          rw [hf]
          exact ⟨_, rfl, fun h => (by cases h), hE.out⟩
        · have hmc : m ≤ cD := by omega
          go_wp2_with (first | (go_at_call 100; refine (HC.out _ hE.out).mono ?_; rintro e w' ⟨rfl, rfl⟩) | ((with_reducible refine ev_cut (m := m) (A := D) (n := vj.length) (cap := cD) (k := .i64) Tryz.underlying67 (info_parts iMk).choose_spec.1 ?hx ?hh hmc ?_); (case hx => rfl); (case hh => rfl)) | (with_reducible refine stop_app ?_))
          refine Stop.go ?_
          refine ev_appsMk (w0 := wo) (B := wo.heap.size) (xs := []) (vj.take m) rfl rfl (by rw [List.length_take]; omega) (q2.take m) (Own.nil _ _ _ _) (Ext.refl _) rfl (by rw [List.length_take]; simp; omega) ?_
          intro v1 w1 ho he
          have HPRE : Hid (Own elMk 109 wo.heap.size w1 v1 pre) := Lib.hid (by rw [HPR.out]; exact ho)
          have HEc := Lib.hid he
          have HV : Hid (vok l cnt k = true) := Lib.hid (by rw [HVK.out]; simp; omega)
          clear ho he q0 q1 q2 h0 h1 h2 hfit hmc
          go_wp2
          try go_frame
          go_loopw [8, 10] (fun v i wc => ∃ j : Nat, j ≤ n ∧ i = .int .i64 j ∧ Hid (Own elMk 109 wo.heap.size wc v (pre ++ ownMks k j)) ∧ Hid (Ext wo wc)) (fun _ i _ => n - (intOf i).toNat)
          case atStart => exact ⟨0, Nat.zero_le _, rfl, by rw [show pre ++ ownMks k 0 = pre by simp [ownMks]]; exact HPRE.out, HEc.out⟩
          case round =>
            clear HPRE HEc
            obtain ⟨j', hj', rfl, HP, HEi⟩ := hrel
            have h3' := HEi.out.cell h3
            by_cases hlt2 : j' < n
            · go_wp2_with (with_reducible refine stop_lit ?_)
              refine Stop.go ?_
              refine ev_appMk ⟨(k : Int), (j' : Int)⟩ rfl (fun _ => rfl) (fun _ => rfl) HP.out HEi.out rfl (by rw [List.length_append, ownMks_length]; omega) ?_
              intro u v2 w2 ho2 he2 _ _
              have HO2 : Hid (Own elMk 109 wo.heap.size w2 v2 (pre ++ ownMks k (j' + 1))) := Lib.hid (by rw [ownMks_succ, ← List.append_assoc]; exact ho2)
              have HE2 := Lib.hid he2
              clear ho2 he2 HP HEi h3'
              go_wp2
              go_roundw
              case rel => exact ⟨j' + 1, by omega, by go_num, HO2.out, HE2.out⟩
              case measure => simp [intOf]; omega
            · have hjn : j' = n := by omega
              have HP2 : Hid (Own elMk 109 wo.heap.size wr _ (vwStep l cnt (vws l cnt k) k)) := Lib.hid (by rw [HST.out, ← hjn]; exact HP.out)
              clear hjn HP
              obtain ⟨A3, c3, hv3, hc3⟩ := HP2.out.form
              subst hv3
              go_wp2_with (with_reducible refine stop_lit ?_)
              refine Stop.go ?_
              refine ev_appMks (xs := vws l cnt k) (vwStep l cnt (vws l cnt k) k) rfl (fun _ => rfl) (fun _ => rfl) (HO.out.ext HEi.out) (hE.out.trans HEi.out) rfl (El.mono _ (fun b hb => ⟨Nat.le_trans hE.out.size hb, fun e => by have := (HO.out.blk b e).2; omega⟩) HP2.out.k) (by omega) ?_
              intro u v2 w2 ho2 he2
              have HO2 := Lib.hid ho2
              have HE2 := Lib.hid he2
              clear ho2 he2 HP2 HEi h3' hlt2
              go_wp2
              go_roundw
              case rel =>
                refine ⟨k + 1, by omega, by go_num, HO2.out, ?_, HE2.out⟩
                intro i hi
                rcases Nat.lt_succ_iff_lt_or_eq.1 hi with h | rfl
                · exact hn.out i h
                · exact HV.out
              case measure => simp [intOf]; omega
    · have hkl : k = l.length := by omega
      subst hkl
      have hf : fitsOk l cnt = true := (fitsOk_iff l cnt).2 hn.out
      have HF := Lib.hid hf
      clear hf
      go_wp2
      go_ret2
      rw [HF.out]
      exact ⟨_, rfl, fun _ => HO.out.fresh (Nat.le_refl _), hE.out⟩
end Go.Proofs.YtgibdafkidkahaaGreatDoor
