/- Derived: walks: the view of a branch. -/
import Derived.Test.YtgibdafkidkahaaGreatDoorFits
import Derived.Test.YtgibdafkidkahaaGreatDoorPlan
import Derived.BigQuiet
set_option linter.unusedVariables false
set_option linter.unusedSimpArgs false
namespace Go.Proofs.YtgibdafkidkahaaGreatDoor
open Go.RowKit

/-- The view of a branch by its place. -/
def vw (l : List Br) (cnt : List Int) (i : Nat) : List Mk := vwStep l cnt (vws l cnt i) i
theorem viewOf_eq {l : List Br} {cnt : List Int} {i : Nat} (h : i < l.length) : viewOf l cnt i = vw l cnt i := by
  unfold viewOf
  rw [List.getD_eq_getElem?_getD, vws_get h]; rfl
theorem ownMks_take (i n m : Nat) : (ownMks i n).take m = ownMks i (min m n) := by
  unfold ownMks
  rw [← List.map_take, List.take_range]
/-- What comes first in a view. -/
def vpre (l : List Br) (cnt : List Int) (i : Nat) : List Mk := if i = 0 then [] else (stem l (vws l cnt i) i).take (l.getD i default).at_.toNat
theorem vw_eq (l : List Br) (cnt : List Int) (i : Nat) : vw l cnt i = vpre l cnt i ++ ownMks i (cnt.getD i 0).toNat := rfl
theorem vw_take (l : List Br) (cnt : List Int) (i m : Nat) : (vw l cnt i).take m = (vpre l cnt i).take m ++ ownMks i (min (m - (vpre l cnt i).length) (cnt.getD i 0).toNat) := by
  rw [vw_eq, List.take_append, ownMks_take]
theorem vpre_stem {l : List Br} (hl : checkB l = 0) {cnt : List Int} {i : Nat} {x : Br} (hx : l[i]? = some x) (hi : 0 < i) {j : Nat} (hj : idx l x.frm = j) (hji : j < i) : vpre l cnt i = (vw l cnt j).take x.at_.toNat := by
  have hg : l.getD i default = x := by rw [List.getD_eq_getElem?_getD, hx]; rfl
  unfold vpre stem
  rw [if_neg (by omega), hg, hj, Int.toNat_natCast, List.getD_eq_getElem?_getD, vws_get hji]
  rfl

set_option maxRecDepth 100000 in
set_option maxHeartbeats 4000000 in
theorem branch_view1 (l : List Br) (cnt : List Int) (A A2 : Option Addr) (c c2 g7 g3 g4 : Nat) (hck : checkB l = 0) (hcnt : CntOk l cnt) : ∀ (i : Nat), i < l.length → ∀ (most : Nat) (w : World), most ≤ 400 → Rd elBr w A l → Rd elInt w A2 cnt →
    w.cell? ⟨g7, 0, none⟩ = some (.func (.func 245) #[] #[.pointer (some ⟨g7, 0, none⟩), .pointer (some ⟨g3, 0, none⟩), .pointer (some ⟨g4, 0, none⟩)]) →
    w.cell? ⟨g3, 0, none⟩ = some (.slice A l.length c) → w.cell? ⟨g4, 0, none⟩ = some (.slice A2 cnt.length c2) →
    Calls Tryz.prog 245 #[.int .i64 (i : Int), .int .i64 (most : Int), .pointer (some ⟨g7, 0, none⟩), .pointer (some ⟨g3, 0, none⟩), .pointer (some ⟨g4, 0, none⟩)] w fun e w' =>
      ∃ r, e = .returned r ∧ Own elMk 109 w.heap.size w' r ((vw l cnt i).take most) ∧ Ext w w' := by
  intro i
  induction i using Nat.strongRecOn with
  | _ i ih =>
    intro hi most w hmost hl hr2 k7 k3 k4
    have hl8 := (checkB_zero hck).1
    have hx : l[i]? = some l[i] := List.getElem?_eq_getElem hi
    generalize l[i] = x at hx
    have hcl : cnt.length = l.length := hcnt.1
    have hy : cnt[i]? = some cnt[i] := List.getElem?_eq_getElem (by omega)
    generalize cnt[i] = y at hy
    have hyr := hcnt.2 i y hy
    obtain ⟨n, hyn⟩ : ∃ n : Nat, y = n := ⟨y.toNat, by omega⟩
    subst hyn
    have hn40 : n ≤ 40 := by omega
    have hgy : (cnt.getD i 0).toNat = n := by rw [List.getD_eq_getElem?_getD, hy]; rfl
    obtain ⟨ad, rfl, h0, h1, h2⟩ := hl.br hx
    obtain ⟨ad2, rfl, h3⟩ := hr2.int hy
    have hat := at_range hck hx
    have hTK := vw_take l cnt i most
    rw [hgy] at hTK
    have HTK := Lib.hid hTK
    have hic : i < cnt.length := by omega
    clear hTK hgy hyr hcl
    rcases (show i = 0 ∨ 0 < i by omega) with hi0 | hi0
    · have hi1 : ¬ (0 : Int) < (i : Int) := by omega
      have hpre : vpre l cnt i = [] := by unfold vpre; rw [if_pos hi0]
      rw [hpre] at HTK
      obtain ⟨pre, hpe⟩ : ∃ pre : List Mk, pre = ([] : List Mk).take most := ⟨_, rfl⟩
      obtain ⟨pl, hpl⟩ : ∃ pl : Nat, pl = 0 := ⟨_, rfl⟩
      obtain ⟨K, hK⟩ : ∃ K, K = min (most - ([] : List Mk).length) n := ⟨_, rfl⟩
      have HPL : Hid (pre.length = pl ∧ pl = min most 0 ∧ K = min (most - 0) n) := Lib.hid ⟨by rw [hpe, hpl]; simp, by omega, hK⟩
      rw [← hpe, ← hK] at HTK
      have HO : Hid (Own elMk 109 w.heap.size w (.slice none 0 0) pre) := Lib.hid (by rw [hpe, List.take_nil]; exact Own.nil _ _ _ _)
      have HE : Hid (Ext w w) := Lib.hid (Ext.refl w)
      have hpl9 : pl ≤ 400 := by omega
      have hK9 : K ≤ n := by omega
      clear hpe hpl hK hi0 hpre hx hy hat ih h0 h1 h2
      go_enter Tryz.func245, Tryz.ntmps245
      go_wp2
      go_loopw [8, 9] (fun v t wr => ∃ k : Nat, k ≤ K ∧ t = .int .i64 (k : Int) ∧ Hid (Own elMk 109 w.heap.size wr v (pre ++ ownMks i k)) ∧ Hid (Ext w wr)) (fun _ t _ => n - (intOf t).toNat)
      case atStart => exact ⟨0, Nat.zero_le _, rfl, by rw [show pre ++ ownMks i 0 = pre by simp [ownMks]]; exact HO.out, HE.out⟩
      case round =>
        clear HO HE
        obtain ⟨k, hk, rfl, HO, HE⟩ := hrel
        have k4' := HE.out.cell k4
        have h3' := HE.out.cell h3
        obtain ⟨Av, cv, hv, hcv⟩ := HO.out.form
        have hlen : (pre ++ ownMks i k).length = pl + k := by rw [List.length_append, ownMks_length, HPL.out.1]
        rw [hlen] at hv hcv
        subst hv
        clear hlen
        by_cases hkK : k < K
        · have hkn : k < n := by have := HPL.out.2.2; omega
          have hpk : pl + k < most := by have := HPL.out.2.1; have := HPL.out.2.2; omega
          go_wp2_with (with_reducible refine stop_lit ?_)
          refine Stop.go ?_
          refine ev_appMk ⟨(i : Int), (k : Int)⟩ rfl (fun _ => rfl) (fun _ => rfl) HO.out HE.out rfl (by rw [List.length_append, ownMks_length, HPL.out.1]; omega) ?_
          intro u v2 w2 ho2 he2 _ _
          have HO2 : Hid (Own elMk 109 w.heap.size w2 v2 (pre ++ ownMks i (k + 1))) := Lib.hid (by rw [ownMks_succ, ← List.append_assoc]; exact ho2)
          have HE2 := Lib.hid he2
          clear ho2 he2 HO HE k4' h3'
          go_wp2
          go_roundw
          case rel => exact ⟨k + 1, by omega, by go_num, HO2.out, HE2.out⟩
          case measure => simp [intOf]; omega
        · have HO2 : Hid (Own elMk 109 w.heap.size wr (.slice Av (pl + k) cv) ((vw l cnt i).take most)) := Lib.hid (by rw [HTK.out, show K = k by omega]; exact HO.out)
          clear HO
          by_cases hkn : k < n
          · have hpk : ¬ pl + k < most := by have := HPL.out.2.1; have := HPL.out.2.2; omega
            go_wp2
            go_ret
            exact ⟨_, rfl, HO2.out, HE.out⟩
          · go_wp2
            go_ret
            exact ⟨_, rfl, HO2.out, HE.out⟩
    · have hi1 : (0 : Int) < (i : Int) := by omega
      obtain ⟨ha, hb⟩ := idx_from hck hx hi0
      obtain ⟨j, hj⟩ : ∃ j : Nat, idx l x.frm = j := ⟨(idx l x.frm).toNat, by omega⟩
      have hji : j < i := by omega
      have hpre := vpre_stem hck (cnt := cnt) hx hi0 hj hji
      obtain ⟨m, hm⟩ : ∃ m : Nat, x.at_ = m := ⟨x.at_.toNat, by omega⟩
      rw [hm, Int.toNat_natCast] at hpre
      rw [hm] at h2
      have HPRE := Lib.hid hpre
      have HIX : Hid (∀ w2, Ext w w2 → Calls Tryz.prog 194 #[.slice (some ad) l.length c, .string x.frm] w2 fun e w' => e = .returned (.int .i64 (j : Int)) ∧ Ext w2 w') := Lib.hid fun w2 h => hj ▸ branch_index l x.frm _ c w2 (hl.ext h)
      have HIH := Lib.hid (ih j hji (by omega))
      have q7 : ∀ y : Up w, y.u.cell? ⟨g7, 0, none⟩ = _ := fun y => y.ext.cell k7
      have q3 : ∀ y : Up w, y.u.cell? ⟨g3, 0, none⟩ = _ := fun y => y.ext.cell k3
      have q4 : ∀ y : Up w, y.u.cell? ⟨g4, 0, none⟩ = _ := fun y => y.ext.cell k4
      have q1 : ∀ y : Up w, y.u.cell? ⟨(ad.add (i * 3)).block, (ad.add (i * 3)).off + 1, none⟩ = some (.string x.frm) := fun y => y.ext.cell h1
      have q2 : ∀ y : Up w, y.u.cell? ⟨(ad.add (i * 3)).block, (ad.add (i * 3)).off + 2, none⟩ = some (.int .i64 (m : Int)) := fun y => y.ext.cell h2
      clear hx hat hpre hy ih ha hb hj hm
      go_enter Tryz.func245, Tryz.ntmps245
      go_wp2
      refine wp_region_planU [(true, 0), (true, 1), (true, 2), (true, 3), (true, 4), (true, 5), (true, 6), (true, 8), (true, 9), (true, 10), (true, 11), (true, 12), (true, 13), (true, 14), (false, 7), (false, 15), (true, 16)] (by kernel_rfl) (by kernel_rfl) ?_
      ((try go_frame); refine plan_read ?_; go_big_quiet_step (fail); refine wpQuiet_nil ?_)
      ((try go_frame); refine plan_read ?_; go_big_quiet_step (fail); refine wpQuiet_nil ?_)
      ((try go_frame); refine plan_read ?_; go_big_quiet_step (fail); refine wpQuiet_nil ?_)
      ((try go_frame); refine plan_read ?_; go_big_quiet_step (fail); refine wpQuiet_nil ?_)
      ((try go_frame); refine plan_read ?_; go_big_quiet_step (fail); refine wpQuiet_nil ?_)
      ((try go_frame); refine plan_read ?_; go_big_quiet_step (fail); refine wpQuiet_nil ?_)
      ((try go_frame); refine plan_read ?_; go_big_quiet_step (fail); refine wpQuiet_nil ?_)
      ((try go_frame); refine plan_read ?_; go_big_quiet_step (fail); refine wpQuiet_nil ?_)
      ((try go_frame); refine plan_read ?_; go_big_quiet_step (fail); refine wpQuiet_nil ?_)
      ((try go_frame); refine plan_read ?_; go_big_quiet_step (fail); refine wpQuiet_nil ?_)
      ((try go_frame); refine plan_read ?_; go_big_quiet_step (fail); refine wpQuiet_nil ?_)
      ((try go_frame); refine plan_read ?_; go_big_quiet_step (fail); refine wpQuiet_nil ?_)
      ((try go_frame); refine plan_read ?_; go_big_quiet_step (fail); refine wpQuiet_nil ?_)
      ((try go_frame); refine plan_read ?_; go_big_quiet_step (fail); refine wpQuiet_nil ?_)
      have hmin : (if m < most then (m : Int) else (most : Int)) = ((min m most : Nat) : Int) := by split <;> omega
      rw [hmin]
      refine plan_enter (F := 194) rfl (fun _ _ => by kernel_rfl) (Ext.refl w).drew ((HIX.out w.drew (Ext.refl w).drew).mono ?_)
      rintro e w2 ⟨rfl, he2⟩
      refine ⟨_, rfl, he2, ?_⟩
      have hE2 : Ext w w2 := (Ext.refl w).drew.trans he2
      refine plan_enter (F := 245) (caps := [.pointer (some ⟨g7, 0, none⟩), .pointer (some ⟨g3, 0, none⟩), .pointer (some ⟨g4, 0, none⟩)]) rfl (fun _ _ => by kernel_rfl) hE2 ((HIH.out (min m most) w2 (by omega) (hl.ext hE2) (hr2.ext hE2) (hE2.cell k7) (hE2.cell k3) (hE2.cell k4)).mono ?_)
      rintro e w3 ⟨v, rfl, hown, he3⟩
      refine ⟨_, rfl, he3, ?_⟩
      go_frame
      ((try go_frame); refine plan_read ?_; go_big_quiet_step (fail); refine wpQuiet_nil ?_)
      refine plan_end ?_
      obtain ⟨pre, hpe⟩ : ∃ pre : List Mk, pre = (vpre l cnt i).take most := ⟨_, rfl⟩
      obtain ⟨P, hP⟩ : ∃ P, P = (vpre l cnt i).length := ⟨_, rfl⟩
      obtain ⟨pl, hpl⟩ : ∃ pl : Nat, pl = min most P := ⟨_, rfl⟩
      obtain ⟨K, hK⟩ : ∃ K, K = min (most - P) n := ⟨_, rfl⟩
      have HPL : Hid (pre.length = pl ∧ pl = min most P ∧ K = min (most - P) n) := Lib.hid ⟨by rw [hpe, hpl, List.length_take, hP], hpl, hK⟩
      rw [← hpe, ← hP, ← hK] at HTK
      have hE3 : Ext w w3 := hE2.trans he3
      have HO : Hid (Own elMk 109 w.heap.size w3 v pre) := Lib.hid (by
        have e : pre = ((vw l cnt j).take (min m most)) := by rw [hpe, HPRE.out, List.take_take, Nat.min_comm]
        rw [e]
        exact hown.lower hE2.size)
      have HE : Hid (Ext w w3) := Lib.hid hE3
      have hpl9 : pl ≤ 400 := by omega
      have hK9 : K ≤ n := by omega
      clear hpe hP hpl hK hmin hown he3 hE3 hE2 he2 HIX HIH q7 q3 q4 q1 q2 h0 h1 h2 HPRE
      go_wp2
      go_loopw [8, 9] (fun v t wr => ∃ k : Nat, k ≤ K ∧ t = .int .i64 (k : Int) ∧ Hid (Own elMk 109 w.heap.size wr v (pre ++ ownMks i k)) ∧ Hid (Ext w wr)) (fun _ t _ => n - (intOf t).toNat)
      case atStart => exact ⟨0, Nat.zero_le _, rfl, by rw [show pre ++ ownMks i 0 = pre by simp [ownMks]]; exact HO.out, HE.out⟩
      case round =>
        clear HO HE
        obtain ⟨k, hk, rfl, HO, HE⟩ := hrel
        have k4' := HE.out.cell k4
        have h3' := HE.out.cell h3
        obtain ⟨Av, cv, hv, hcv⟩ := HO.out.form
        have hlen : (pre ++ ownMks i k).length = pl + k := by rw [List.length_append, ownMks_length, HPL.out.1]
        rw [hlen] at hv hcv
        subst hv
        clear hlen
        by_cases hkK : k < K
        · have hkn : k < n := by have := HPL.out.2.2; omega
          have hpk : pl + k < most := by have := HPL.out.2.1; have := HPL.out.2.2; omega
          go_wp2_with (with_reducible refine stop_lit ?_)
          refine Stop.go ?_
          refine ev_appMk ⟨(i : Int), (k : Int)⟩ rfl (fun _ => rfl) (fun _ => rfl) HO.out HE.out rfl (by rw [List.length_append, ownMks_length, HPL.out.1]; omega) ?_
          intro u v2 w2 ho2 he2 _ _
          have HO2 : Hid (Own elMk 109 w.heap.size w2 v2 (pre ++ ownMks i (k + 1))) := Lib.hid (by rw [ownMks_succ, ← List.append_assoc]; exact ho2)
          have HE2 := Lib.hid he2
          clear ho2 he2 HO HE k4' h3'
          go_wp2
          go_roundw
          case rel => exact ⟨k + 1, by omega, by go_num, HO2.out, HE2.out⟩
          case measure => simp [intOf]; omega
        · have HO2 : Hid (Own elMk 109 w.heap.size wr (.slice Av (pl + k) cv) ((vw l cnt i).take most)) := Lib.hid (by rw [HTK.out, show K = k by omega]; exact HO.out)
          clear HO
          by_cases hkn : k < n
          · have hpk : ¬ pl + k < most := by have := HPL.out.2.1; have := HPL.out.2.2; omega
            go_wp2
            go_ret
            exact ⟨_, rfl, HO2.out, HE.out⟩
          · go_wp2
            go_ret
            exact ⟨_, rfl, HO2.out, HE.out⟩

theorem zFn : (Tryz.prog.info? 323).map (fun i => i.zero) = some (some .nilFunc) := by kernel_rfl
theorem sFn : (Tryz.prog.info? 323).map (fun i => i.size) = some 1 := by kernel_rfl
set_option maxRecDepth 100000 in
set_option maxHeartbeats 4000000 in
theorem branch_view (l : List Br) (cnt : List Int) (A A2 : Option Addr) (c c2 : Nat) (hck : checkB l = 0) (hcnt : CntOk l cnt) (i : Nat) (hi : i < l.length) (hv : vok l cnt i = true) (w : World) (hl : Rd elBr w A l) (hr2 : Rd elInt w A2 cnt) :
    Calls Tryz.prog 195 #[.slice A l.length c, .slice A2 cnt.length c2, .int .i64 (i : Int)] w fun e w' => ∃ r, e = .returned r ∧ Own elMk 109 w.heap.size w' r (vw l cnt i) ∧ Ext w w' := by
  have hx : l[i]? = some l[i] := List.getElem?_eq_getElem hi
  generalize l[i] = x at hx
  have hcl : cnt.length = l.length := hcnt.1
  have hy : cnt[i]? = some cnt[i] := List.getElem?_eq_getElem (by omega)
  generalize cnt[i] = y at hy
  have hyr := hcnt.2 i y hy
  have hat := at_range hck hx
  obtain ⟨n, hyn⟩ : ∃ n : Nat, y = n := ⟨y.toNat, by omega⟩
  subst hyn
  obtain ⟨m, hm⟩ : ∃ m : Nat, x.at_ = m := ⟨x.at_.toNat, by omega⟩
  have hlen := vw_len hck hcnt hi hv
  rw [List.getD_eq_getElem?_getD, hx, List.getD_eq_getElem?_getD, hy] at hlen
  simp only [Option.getD_some] at hlen
  rw [hm] at hlen
  have hm320 : m ≤ 320 := by omega
  have hn40 : n ≤ 40 := by omega
  have HTK : Hid ((vw l cnt i).take (m + n) = vw l cnt i) := Lib.hid (List.take_of_length_le (by unfold vw; omega))
  have hic : i < cnt.length := by omega
  obtain ⟨ad, rfl, h0, h1, h2⟩ := hl.br hx
  obtain ⟨ad2, rfl, h3⟩ := hr2.int hy
  rw [hm] at h2
  clear hlen hyr hat hx hy hcl h0 h1 hm
  go_enter Tryz.func195, Tryz.ntmps195
  go_wp2_with (with_reducible refine stop_box ?_)
  refine Stop.go ?_
  refine ev_boxL (A := some ad) (n := l.length) (c := c) rfl ?_
  intro g3 w1 hb1 he1 hg3 k3
  go_wp2_with (with_reducible refine stop_box ?_)
  refine Stop.go ?_
  refine ev_boxL (A := some ad2) (n := cnt.length) (c := c2) rfl ?_
  intro g4 w2 hb2 he2 hg4 k4
  have k3' := he2.cell k3
  have HE2 := Lib.hid (he1.trans he2)
  clear he1 he2 hb1 hb2 k3 hg3 hg4
  go_wp2_with (with_reducible refine stop_alloc ?_)
  refine Stop.go ?_
  refine ev_alloc .nilFunc zFn ?_
  intro g7 w3 hb3 he3 hg7
  have k4' := he3.cell k4
  have k3'' := he3.cell k3'
  have HE3 := Lib.hid (HE2.out.trans he3)
  have HG : Hid (w.heap.size ≤ g7) := Lib.hid (Nat.le_trans HE2.out.size hg7)
  have h37 : (⟨g3, 0, none⟩ : Addr).block ≠ g7 := by have := World.block_lt_of_cell? _ _ k3'; show g3 ≠ g7; have : g3 < w2.heap.size := this; omega
  have h47 : (⟨g4, 0, none⟩ : Addr).block ≠ g7 := by have := World.block_lt_of_cell? _ _ k4; show g4 ≠ g7; have : g4 < w2.heap.size := this; omega
  have H37 := Lib.hid h37
  have H47 := Lib.hid h47
  clear he3 HE2 k4 k3' hg7 h37 h47
  go_wp2_with (with_reducible refine stop_store ?_)
  refine Stop.go ?_
  refine ev_store (g := g7) (v := .func (.func 245) #[] #[.pointer (some ⟨g7, 0, none⟩), .pointer (some ⟨g3, 0, none⟩), .pointer (some ⟨g4, 0, none⟩)]) rfl rfl hb3 sFn rfl (by intro u hu; simp [Value.cells] at hu; subst hu; rfl) ?_
  intro w4 hb4 ht4
  have k7 := (blk_cell hb4 0).trans rfl
  have k3 := (ht4.cell H37.out).trans k3''
  have k4 := (ht4.cell H47.out).trans k4'
  have HE4 : Hid (Ext w w4) := Lib.hid (ht4.ext HE3.out HG.out)
  clear hb3 ht4 k3'' k4' HE3 HG H37 H47
  have q7 : ∀ y : Up w4, y.u.cell? ⟨g7, 0, none⟩ = _ := fun y => y.ext.cell k7
  have q3 : ∀ y : Up w4, y.u.cell? ⟨g3, 0, none⟩ = _ := fun y => y.ext.cell k3
  have q4 : ∀ y : Up w4, y.u.cell? ⟨g4, 0, none⟩ = _ := fun y => y.ext.cell k4
  have q2 : ∀ y : Up w4, y.u.cell? ⟨(ad.add (i * 3)).block, (ad.add (i * 3)).off + 2, none⟩ = some (.int .i64 (m : Int)) := fun y => y.ext.cell (HE4.out.cell h2)
  have q1 : ∀ y : Up w4, y.u.cell? (ad2.add i) = some (.int .i64 (n : Int)) := fun y => y.ext.cell (HE4.out.cell h3)
  go_wp2
  have hsum : IntKind.i64.wrap ((m : Int) + (n : Int)) = (m : Int) + (n : Int) := IntWalk.i64_in _ (by omega)
  refine wp_region_planU [(true, 0), (true, 1), (true, 2), (true, 3), (true, 4), (true, 5), (true, 6), (true, 7), (true, 8), (true, 9), (true, 10), (true, 11), (false, 12), (true, 13)] (by kernel_rfl) (by kernel_rfl) ?_
  ((try go_frame); refine plan_read ?_; go_big_quiet_step (fail); refine wpQuiet_nil ?_)
  ((try go_frame); refine plan_read ?_; go_big_quiet_step (fail); refine wpQuiet_nil ?_)
  ((try go_frame); refine plan_read ?_; go_big_quiet_step (fail); refine wpQuiet_nil ?_)
  ((try go_frame); refine plan_read ?_; go_big_quiet_step (fail); refine wpQuiet_nil ?_)
  ((try go_frame); refine plan_read ?_; go_big_quiet_step (fail); refine wpQuiet_nil ?_)
  ((try go_frame); refine plan_read ?_; go_big_quiet_step (fail); refine wpQuiet_nil ?_)
  ((try go_frame); refine plan_read ?_; go_big_quiet_step (fail); refine wpQuiet_nil ?_)
  ((try go_frame); refine plan_read ?_; go_big_quiet_step (fail); refine wpQuiet_nil ?_)
  ((try go_frame); refine plan_read ?_; go_big_quiet_step (fail); refine wpQuiet_nil ?_)
  ((try go_frame); refine plan_read ?_; go_big_quiet_step (fail); refine wpQuiet_nil ?_)
  ((try go_frame); refine plan_read ?_; go_big_quiet_step (fail); refine wpQuiet_nil ?_)
  ((try go_frame); refine plan_read ?_; go_big_quiet_step (fail); refine wpQuiet_nil ?_)
  have hE5 : Ext w w4.drew := HE4.out.drew
  have hcall := branch_view1 l cnt (some ad) (some ad2) c c2 g7 g3 g4 hck hcnt i hi (m + n) w4.drew (by omega) (hl.ext hE5) (hr2.ext hE5) k7 k3 k4
  rw [Int.natCast_add] at hcall
  refine plan_enter (F := 245) (caps := [.pointer (some ⟨g7, 0, none⟩), .pointer (some ⟨g3, 0, none⟩), .pointer (some ⟨g4, 0, none⟩)]) rfl (fun _ _ => by kernel_rfl) (Ext.refl w4).drew (hcall.mono ?_)
  rintro e w5 ⟨r, rfl, hown, he5⟩
  refine ⟨_, rfl, he5, ?_⟩
  ((try go_frame); refine plan_read ?_; go_big_quiet_step (fail); refine wpQuiet_nil ?_)
  refine plan_end ?_
  have HR : Hid (Own elMk 109 w.heap.size w5 r (vw l cnt i)) := Lib.hid (by rw [HTK.out] at hown; exact hown.lower hE5.size)
  have HE5 := Lib.hid (hE5.trans he5)
  clear hcall hown he5 hE5 hsum q7 q3 q4 q2 q1
  go_wp2
  go_ret
  exact ⟨_, rfl, HR.out, HE5.out⟩

/-- The error of a view, and the view. -/
def viewErr (l : List Br) (cnt : List Int) (nm : Str) : Int := if fitsB l cnt ≠ 0 then fitsB l cnt else if idx l nm < 0 then 6 else 0
def viewL (l : List Br) (cnt : List Int) (nm : Str) : List Mk := if viewErr l cnt nm = 0 then vw l cnt (idx l nm).toNat else []
theorem viewErr_bad {l : List Br} {cnt : List Int} {nm : Str} (h : fitsB l cnt ≠ 0) : viewErr l cnt nm = fitsB l cnt := if_pos h
theorem viewErr_none {l : List Br} {cnt : List Int} {nm : Str} (h : fitsB l cnt = 0) (h1 : idx l nm < 0) : viewErr l cnt nm = 6 := by rw [viewErr, if_neg (by simp [h]), if_pos h1]
theorem viewErr_ok {l : List Br} {cnt : List Int} {nm : Str} (h : fitsB l cnt = 0) (h1 : ¬ idx l nm < 0) : viewErr l cnt nm = 0 := by rw [viewErr, if_neg (by simp [h]), if_neg h1]
theorem viewL_nil {l : List Br} {cnt : List Int} {nm : Str} (h : viewErr l cnt nm ≠ 0) : viewL l cnt nm = [] := if_neg h
theorem viewL_ok {l : List Br} {cnt : List Int} {nm : Str} (h : viewErr l cnt nm = 0) : viewL l cnt nm = vw l cnt (idx l nm).toNat := if_pos h
theorem viewErr_zero {l : List Br} {cnt : List Int} {nm : Str} (h : viewErr l cnt nm = 0) : fitsB l cnt = 0 ∧ 0 ≤ idx l nm := by
  unfold viewErr at h
  split at h
  · rename_i h1; exact absurd h h1
  · rename_i h1
    split at h
    · cases h
    · exact ⟨by simpa using h1, by omega⟩

theorem branch_View (l : List Br) (cnt : List Int) (nm : Str) (A A2 : Option Addr) (c c2 : Nat) (w : World) (hl : Rd elBr w A l) (hr2 : Rd elInt w A2 cnt) (hcap : l.length ≤ c) :
    Calls Tryz.prog 134 #[.slice A l.length c, .slice A2 cnt.length c2, .string nm] w fun e w' => ∃ r, e = .returned (.tuple #[r, .int .i64 (viewErr l cnt nm)]) ∧ Own elMk 109 w.heap.size w' r (viewL l cnt nm) ∧ Ext w w' := by
  have HF := Lib.hid (branch_Fits l cnt A A2 c c2 w hl hr2 hcap)
  by_cases hf : fitsB l cnt = 0
  · rw [hf] at HF
    have HI : Hid (∀ w2, Ext w w2 → _) := Lib.hid fun w2 (he : Ext w w2) => branch_index l nm A c w2 (hl.ext he)
    by_cases hi : idx l nm < 0
    · have hv : viewErr l cnt nm = 6 := viewErr_none hf hi
      have hn := viewL_nil (l := l) (cnt := cnt) (nm := nm) (by rw [hv]; decide)
      rw [hv, hn]
      generalize idx l nm = z at *
      clear hf hv hn
      go_enter Tryz.func134, Tryz.ntmps134
      go_wp2_with fail
      refine HF.out.mono ?_
      rintro e w1 ⟨rfl, he1⟩
      go_wp2_with fail
      refine (HI.out w1 he1).mono ?_
      rintro e w2 ⟨rfl, he2⟩
      have HE2 := Lib.hid (he1.trans he2)
      clear he1 he2
      go_wp2
      go_ret2
      exact ⟨_, rfl, Own.nil _ _ _ _, HE2.out⟩
    · have hv : viewErr l cnt nm = 0 := viewErr_ok hf hi
      have hn := viewL_ok (l := l) (cnt := cnt) (nm := nm) hv
      obtain ⟨hck, hcnt, hfo⟩ := fitsB_zero hf
      have hlt := (idx_lt l nm).1
      obtain ⟨i, hii⟩ : ∃ i : Nat, idx l nm = i := ⟨(idx l nm).toNat, by omega⟩
      rw [hii] at HI hn hlt
      rw [hv, hn, Int.toNat_natCast]
      have HV : Hid (∀ w2, Ext w w2 → _) := Lib.hid fun w2 (he : Ext w w2) => branch_view l cnt A A2 c c2 hck hcnt i (by omega) ((fitsOk_iff l cnt).1 hfo i (by omega)) w2 (hl.ext he) (hr2.ext he)
      clear hf hv hn hii hck hcnt hfo hlt hi
      go_enter Tryz.func134, Tryz.ntmps134
      go_wp2_with fail
      refine HF.out.mono ?_
      rintro e w1 ⟨rfl, he1⟩
      go_wp2_with fail
      refine (HI.out w1 he1).mono ?_
      rintro e w2 ⟨rfl, he2⟩
      have HE2 := Lib.hid (he1.trans he2)
      clear he1 he2
      go_wp2_with fail
      refine (HV.out w2 HE2.out).mono ?_
      rintro e w3 ⟨r, rfl, hown, he3⟩
      have HR := Lib.hid (hown.lower HE2.out.size)
      have HE3 := Lib.hid (HE2.out.trans he3)
      clear hown he3
      go_wp2
      go_ret2
      exact ⟨_, rfl, HR.out, HE3.out⟩
  · have hv := viewErr_bad (nm := nm) hf
    have hn := viewL_nil (l := l) (cnt := cnt) (nm := nm) (by rw [hv]; exact hf)
    rw [hv, hn]
    have e1 : (fitsB l cnt != 0) = true := by rw [bne_iff_ne]; exact hf
    generalize fitsB l cnt = z at *
    clear hf hv hn
    go_enter Tryz.func134, Tryz.ntmps134
    go_wp2_with fail
    refine HF.out.mono ?_
    rintro e w1 ⟨rfl, he1⟩
    have HE1 := Lib.hid he1
    clear he1
    go_wp2
    go_ret2
    exact ⟨_, rfl, Own.nil _ _ _ _, HE1.out⟩

/-- An element that is a slice, made by a call. -/
theorem Fresh.sub {α : Type} {d : El α} {B : Nat} {w : World} {A : Option Addr} {n c : Nat} {xs : List (List α)} (h : Fresh (El.sl d) B w (.slice A n c) xs) {k : Nat} {x : List α} (hk : xs[k]? = some x) :
    ∃ ad D cd, A = some ad ∧ n = xs.length ∧ w.cell? (ad.add k) = some (.slice D x.length cd) ∧ Fresh d B w (.slice D x.length cd) x := by
  obtain ⟨A', c', h0, hc, hm, ht, h2⟩ := h
  simp only [List.cons.injEq, Value.slice.injEq, and_true] at h0
  obtain ⟨rfl, rfl, rfl⟩ := h0
  obtain ⟨ad, cs, rfl, hK, hc0⟩ := h2 k x hk
  obtain ⟨D, cd, rfl, q⟩ := hK
  have := hc0 0 _ rfl
  rw [show (El.sl d).sz = 1 from rfl, Nat.mul_one, Nat.add_zero] at this
  exact ⟨ad, D, cd, rfl, rfl, this, ⟨D, cd, rfl, q⟩⟩
theorem ref26_View (l : List Br) (cnt : List Int) (nm : Str) (A A2 : Option Addr) (c c2 : Nat) (w : World) (hl : Rd elBr w A l) (hr2 : Rd elInt w A2 cnt) (hcap : l.length ≤ c) :
    Calls Tryz.prog 32 #[.slice A l.length c, .slice A2 cnt.length c2, .string nm] w fun e w' => ∃ r, e = .returned (.tuple #[r, .int .i64 (viewErr l cnt nm)]) ∧ Fresh elMk w.heap.size w' r (viewL l cnt nm) ∧ Ext w w' := by
  have HF : Hid (∀ w2, Ext w w2 → _) := Lib.hid fun w2 (he : Ext w w2) => ref26_Fits l cnt A A2 c c2 w2 (hl.ext he) (hr2.ext he) hcap
  by_cases hf : fitsB l cnt = 0
  · rw [hf] at HF
    have HI : Hid (∀ w2, Ext w w2 → _) := Lib.hid fun w2 (he : Ext w w2) => ref26_Index l nm A c w2 (hl.ext he)
    by_cases hi : idx l nm < 0
    · have hv : viewErr l cnt nm = 6 := viewErr_none hf hi
      have hn := viewL_nil (l := l) (cnt := cnt) (nm := nm) (by rw [hv]; decide)
      rw [hv, hn]
      generalize idx l nm = z at *
      clear hf hv hn
      go_enter Tryz.func32, Tryz.ntmps32
      go_wp2_with fail
      refine (HF.out w (Ext.refl w)).mono ?_
      rintro e w1 ⟨rfl, he1⟩
      have HE1 := Lib.hid he1
      clear he1
      go_wp2_with fail
      refine (HI.out w1 HE1.out).mono ?_
      rintro e w2 ⟨rfl, rfl⟩
      go_wp2
      go_ret2
      exact ⟨_, rfl, fresh_nil _ _ _, HE1.out⟩
    · have hv : viewErr l cnt nm = 0 := viewErr_ok hf hi
      have hn := viewL_ok (l := l) (cnt := cnt) (nm := nm) hv
      obtain ⟨hck, hcnt, hfo⟩ := fitsB_zero hf
      have hlt := (idx_lt l nm).1
      obtain ⟨i, hii⟩ : ∃ i : Nat, idx l nm = i := ⟨(idx l nm).toNat, by omega⟩
      rw [hii] at HI hn hlt
      rw [hv, hn, Int.toNat_natCast]
      have hil : i < l.length := by omega
      have HV : Hid (∀ w2, Ext w w2 → _) := Lib.hid fun w2 (he : Ext w w2) => ref26_views l cnt A A2 c c2 w2 (hl.ext he) (hr2.ext he) hck hcnt
      have HG : Hid ((vws l cnt l.length)[i]? = some (vw l cnt i)) := Lib.hid (vws_get hil)
      have HFO := Lib.hid hfo
      clear hf hv hn hii hck hcnt hfo hlt hi
      go_enter Tryz.func32, Tryz.ntmps32
      go_wp2_with fail
      refine (HF.out w (Ext.refl w)).mono ?_
      rintro e w1 ⟨rfl, he1⟩
      have HE1 := Lib.hid he1
      clear he1
      go_wp2_with fail
      refine (HI.out w1 HE1.out).mono ?_
      rintro e w2 ⟨rfl, rfl⟩
      go_wp2_with fail
      refine (HV.out w1 HE1.out).mono ?_
      rintro e w3 ⟨r, rfl, hfr, he3⟩
      have hfr := hfr HFO.out
      obtain ⟨A3, c3, rfl, hc3, hr3⟩ := hfr.sl
      obtain ⟨ad3, D, cd, rfl, hn3, k0, hsub⟩ := hfr.sub HG.out
      have hi3 : i < (vws l cnt l.length).length := by rw [vws_length]; exact hil
      have HR := Lib.hid (hsub.lower HE1.out.size)
      have HE3 := Lib.hid (HE1.out.trans he3)
      clear hsub he3 hfr hn3 hr3 hc3
      go_wp2
      go_ret2
      exact ⟨_, rfl, HR.out, HE3.out⟩
  · have hv := viewErr_bad (nm := nm) hf
    have hn := viewL_nil (l := l) (cnt := cnt) (nm := nm) (by rw [hv]; exact hf)
    rw [hv, hn]
    have e1 : (fitsB l cnt != 0) = true := by rw [bne_iff_ne]; exact hf
    generalize fitsB l cnt = z at *
    clear hf hv hn
    go_enter Tryz.func32, Tryz.ntmps32
    go_wp2_with fail
    refine (HF.out w (Ext.refl w)).mono ?_
    rintro e w1 ⟨rfl, he1⟩
    have HE1 := Lib.hid he1
    clear he1
    go_wp2_with fail
    refine (HF.out w1 HE1.out).mono ?_
    rintro e w2 ⟨rfl, he2⟩
    have HE2 := Lib.hid (HE1.out.trans he2)
    clear he2
    go_wp2
    go_ret2
    exact ⟨_, rfl, fresh_nil _ _ _, HE2.out⟩
end Go.Proofs.YtgibdafkidkahaaGreatDoor
