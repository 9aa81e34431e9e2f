/- Derived: plain: the gaps of a branch at a place of its view, and the report's gaps of one branch; a walk: a gap comes before another one. -/
import Derived.Test.YtgibdafkidkahaaGreatDoorRef34D
import Derived.Test.YtgibdafkidkahaaGreatDoorAliv2
import Derived.Test.YtgibdafkidkahaaGreatDoorGreat
set_option linter.unusedVariables false
set_option linter.unusedSimpArgs false
namespace Go.Proofs.YtgibdafkidkahaaGreatDoor
open Go.RowKit

def cntC (l : List Gp) (c : Int) : Nat := (l.filter fun x => decide (x.cls = c)).length
theorem cntC_take {l : List Gp} {j : Nat} {x : Gp} (c : Int) (h : l[j]? = some x) : cntC (l.take (j + 1)) c = if x.cls = c then cntC (l.take j) c + 1 else cntC (l.take j) c := by
  unfold cntC
  rw [List.take_add_one, h, List.filter_append, List.length_append]
  by_cases hc : x.cls = c <;> simp [hc]
theorem cntC_le (l : List Gp) (c : Int) : cntC l c ≤ l.length := List.length_filter_le _ _
theorem pw_eq {α β : Type} {f : α → β} {l : List α} (h : l.Pairwise fun a b => f a ≠ f b) {a b : α} (ha : a ∈ l) (hb : b ∈ l) (e : f a = f b) : a = b := by
  induction l with
  | nil => simp at ha
  | cons x t ih =>
    rw [List.pairwise_cons] at h
    rcases List.mem_cons.1 ha with h1 | h1
    · rcases List.mem_cons.1 hb with h2 | h2
      · rw [h1, h2]
      · exact absurd (by rw [← h1]; exact e) (h.1 b h2)
    · rcases List.mem_cons.1 hb with h2 | h2
      · exact absurd (by rw [← h2]; exact e.symm) (h.1 a h1)
      · exact ih h.2 h1 h2
theorem one_mem {α : Type} {l : List α} (hn : l.Nodup) {a : α} (h : ∀ x ∈ l, x = a) : l.length ≤ 1 := by
  match l, hn, h with
  | [], _, _ => exact Nat.zero_le _
  | [x], _, _ => exact Nat.le_refl _
  | x :: y :: t, hn, h =>
    have h1 := h x List.mem_cons_self
    have h2 := h y (List.mem_cons_of_mem _ List.mem_cons_self)
    rw [h1, h2] at hn
    simp at hn
theorem gap_fix {fx : List Fx} (hf : FxOk fx) {nm : Str} {E : List Int} {f : Fx} (hk : f ∈ fx) : ∀ x ∈ ordL fx [(nm, E)], x.cls = f.cls → x = ⟨nm, f.cls, f.wt⟩ := by
  intro x hx hc
  obtain ⟨p, hp, f', h1, _, _, rfl⟩ := (mem_ordL hf).1 hx
  rw [List.mem_singleton.1 hp]
  rw [pw_eq (f := fun f : Fx => f.cls) hf.one h1 hk hc]
theorem gap_count {fx : List Fx} (hf : FxOk fx) {nm : Str} {E : List Int} {f : Fx} (hk : f ∈ fx) : cntC (ordL fx [(nm, E)]) f.cls = if (wanted f nm && !decide (f.cls ∈ E)) = true then 1 else 0 := by
  have hnd : (ordL fx [(nm, E)]).Nodup := ordL_nodup (pos := fun _ => 0) hf (List.pairwise_singleton _ _)
  have h1 : cntC (ordL fx [(nm, E)]) f.cls ≤ 1 := one_mem (hnd.filter _) (a := ⟨nm, f.cls, f.wt⟩) fun x hx => by
    obtain ⟨h2, h3⟩ := List.mem_filter.1 hx
    exact gap_fix hf hk x h2 (of_decide_eq_true h3)
  by_cases hw : (wanted f nm && !decide (f.cls ∈ E)) = true
  · rw [if_pos hw]
    simp only [Bool.and_eq_true, Bool.not_eq_true', decide_eq_false_iff_not] at hw
    have h2 : (⟨nm, f.cls, f.wt⟩ : Gp) ∈ ordL fx [(nm, E)] := (mem_ordL hf).2 ⟨(nm, E), List.mem_singleton.2 rfl, f, hk, hw.1, hw.2, rfl⟩
    have h3 : (⟨nm, f.cls, f.wt⟩ : Gp) ∈ (ordL fx [(nm, E)]).filter fun x => decide (x.cls = f.cls) := List.mem_filter.2 ⟨h2, by simp⟩
    have h4 := List.length_pos_of_mem h3
    unfold cntC at h1 ⊢
    omega
  · rw [if_neg hw]
    unfold cntC
    rw [List.length_eq_zero_iff, List.filter_eq_nil_iff]
    intro x hx hc
    have hxe := gap_fix hf hk x hx (of_decide_eq_true hc)
    obtain ⟨p, hp, f', h2, h3, h4, h5⟩ := (mem_ordL hf).1 hx
    rw [List.mem_singleton.1 hp] at h3 h4
    have h6 : f' = f := pw_eq (f := fun f : Fx => f.cls) hf.one h2 hk (by rw [hxe] at h5; simp only [Gp.mk.injEq] at h5; exact h5.2.1.symm)
    subst h6
    apply hw
    simp [h3, h4]
theorem ordAt_br (fx : List Fx) (w c : Int) (p : Str × List Int) (nm : Str) : (ordAt fx w c p).filter (fun x => decide (x.br = nm)) = if p.1 = nm then ordAt fx w c p else [] := by
  by_cases h : p.1 = nm
  · rw [if_pos h, List.filter_eq_self]
    intro x hx
    rw [ordAt_form hx]
    simp [h]
  · rw [if_neg h, List.filter_eq_nil_iff]
    intro x hx
    rw [ordAt_form hx]
    simp [h]
theorem flat_key {α β γ : Type} [DecidableEq γ] (k : α → γ) (F : α → List β) {l : List α} (hp : l.Pairwise fun a b => k a ≠ k b) {a : α} (ha : a ∈ l) : (l.flatMap fun p => if k p = k a then F p else []) = F a := by
  induction l with
  | nil => simp at ha
  | cons x t ih =>
    rw [List.pairwise_cons] at hp
    rw [List.flatMap_cons]
    have hnil : ∀ b, (∀ y ∈ t, k b ≠ k y) → (t.flatMap fun p => if k p = k b then F p else []) = [] := fun b hb => by
      rw [List.flatMap_eq_nil_iff]
      intro y hy
      rw [if_neg fun e => hb y hy e.symm]
    rcases List.mem_cons.1 ha with rfl | ha
    · rw [if_pos rfl, hnil _ hp.1, List.append_nil]
    · rw [if_neg (hp.1 a ha), List.nil_append, ih hp.2 ha]
theorem ordL_filter (fx : List Fx) {bs : List (Str × List Int)} (hp : bs.Pairwise fun a b => a.1 ≠ b.1) {p : Str × List Int} (hm : p ∈ bs) : (ordL fx bs).filter (fun x => decide (x.br = p.1)) = ordL fx [p] := by
  unfold ordL
  rw [List.filter_flatMap]
  congr 1
  funext w
  rw [List.filter_flatMap]
  congr 1
  funext c
  rw [List.filter_flatMap, List.flatMap_singleton]
  simp only [ordAt_br]
  exact flat_key (fun p : Str × List Int => p.1) (fun p => ordAt fx w c p) hp hm
/-- What the law asks of the gaps of a branch: at a place of its view, and at its end. -/
theorem fold_err {g : Lg} {x : Br} (hck : checkL g = 0) (hx : x ∈ g.brs) : lvErr g x.name = 0 := by
  rw [lvErr_ok hck]
  exact viewErr_ok (checkL_zero hck).1.2 (by have := idx_mem hx; omega)
theorem fold_then {g : Lg} {fx : List Fx} (h : checkF g fx = 0) {x : Br} (hx : x ∈ g.brs) {m : Nat} (hm : m ≤ (lvMk g x.name).length) :
    thenE g fx x.name (m : Int) = 0 ∧ thenL g fx x.name (m : Int) = ordL fx [(x.name, effL g (evsOf g ((lvMk g x.name).take m)))] := by
  have h1 := fold_err (checkF_zero h).1 hx
  have h2 : afterErr g x.name (m : Int) = 0 := afterErr_ok h1 (by omega)
  have h3 : thenE g fx x.name (m : Int) = 0 := by rw [thenE_ok h, h2]
  refine ⟨h3, ?_⟩
  rw [thenL_ok h3, afterL, if_pos h2, Int.toNat_natCast, lvEv, evsOf_take]
theorem fold_own {g : Lg} {fx : List Fx} (h : checkF g fx = 0) {x : Br} (hx : x ∈ g.brs) :
    (gapsL g fx).filter (fun y => decide (y.br = x.name)) = thenL g fx x.name ((lvMk g x.name).length : Int) := by
  have h1 := fold_err (checkF_zero h).1 hx
  have hb := (checkL_zero (checkF_zero h).1).1.1.1.1.2
  rw [(fold_then h hx (Nat.le_refl _)).2, List.take_of_length_le (Nat.le_refl _), gapsL_ok h]
  have h2 : effL g (evsOf g (lvMk g x.name)) = effectL g x.name := by rw [effectL, if_pos h1]; rfl
  rw [h2]
  exact ordL_filter fx (p := (x.name, effectL g x.name)) ((bs_pos hb).imp fun hlt e => by rw [e] at hlt; omega) (List.mem_map.2 ⟨x, hx, rfl⟩)
theorem fold_before {g : Lg} {fx : List Fx} (h : checkF g fx = 0) {k : Nat} {a b : Gp} (ha : (gapsL g fx)[k]? = some a) (hb : (gapsL g fx)[k + 1]? = some b) : cmpG (fun s => idx g.brs s) a b < 0 := by
  have hbr := (checkL_zero (checkF_zero h).1).1.1.1.1.2
  rw [gapsL_ok h] at ha hb
  have hp := ordL_pw (fxOk_of h) (bs_pos hbr)
  rw [List.pairwise_iff_getElem] at hp
  obtain ⟨h1, h2⟩ := List.getElem?_eq_some_iff.1 ha
  obtain ⟨h3, h4⟩ := List.getElem?_eq_some_iff.1 hb
  have := hp k (k + 1) h1 h3 (by omega)
  rw [h2, h4] at this
  exact this
theorem fold_len {fx : List Fx} (hf : FxOk fx) (p : Str × List Int) : (ordL fx [p]).length ≤ fx.length := by
  have h1 := raw_perm (pos := fun _ => 0) hf (List.pairwise_singleton (fun p q : Str × List Int => (0 : Int) < 0) p)
  rw [← h1.length_eq]
  have := rawL_len fx [p]
  simpa using this
theorem mem_effL {g : Lg} {s : List Ev} {c : Int} (h : 0 ≤ c ∧ c < 30) : decide (c ∈ effL g s) = inP g s c := by
  obtain ⟨n, rfl⟩ : ∃ n : Nat, c = n := ⟨c.toNat, by omega⟩
  have hiff : ((n : Int) ∈ effL g s) ↔ inP g s (n : Int) = true := by
    unfold effL effN
    rw [List.mem_map]
    constructor
    · rintro ⟨k, hk, e⟩
      have : k = n := by omega
      subst this
      exact (List.mem_filter.1 hk).2
    · intro hi
      exact ⟨n, List.mem_filter.2 ⟨List.mem_range.2 (by omega), hi⟩, rfl⟩
  by_cases hc : (n : Int) ∈ effL g s
  · rw [decide_eq_true hc, hiff.1 hc]
  · rw [decide_eq_false hc]
    cases hi : inP g s (n : Int) with
    | false => rfl
    | true => exact absurd (hiff.2 hi) hc

set_option maxRecDepth 100000 in
set_option maxHeartbeats 4000000 in
theorem law34_before (g : Lg) (x y : Gp) (v : Value) (w : World) (hv : LgV w v g) (h : cmpG (fun s => idx g.brs s) x y < 0) :
    Calls Tryz.prog 37 #[v, .agg #[.string x.br, .int .i64 x.cls, .int .i64 x.wt], .agg #[.string y.br, .int .i64 y.cls, .int .i64 y.wt]] w fun e w' => e = .returned (.bool true) ∧ Ext w w' := by
  obtain ⟨A0, c0, A1, c1, A2, c2, rfl, h0, h1, h2, r0, r1, r2⟩ := hv.ex
  obtain ⟨xb, xc, xw⟩ := x
  obtain ⟨yb, yc, yw⟩ := y
  simp only at h ⊢
  have HC : Hid (cmpG (fun s => idx g.brs s) ⟨xb, xc, xw⟩ ⟨yb, yc, yw⟩ < 0) := Lib.hid h
  clear h
  go_enter Tryz.func37, Tryz.ntmps37
  go_wp2_with (with_reducible refine stop_box ?_)
  refine Stop.go ?_
  refine ev_box3 (c0 := .slice A0 g.known.length c0) (c1 := .slice A1 g.brs.length c1) (c2 := .slice A2 g.evs.length c2) rfl ?_
  intro g1 w1 hb_g1 he1 hg_g1 k0 k1 k2
  go_wp2_with (with_reducible refine stop_box ?_)
  refine Stop.go ?_
  refine ev_box3 (c0 := .string xb) (c1 := .int .i64 xc) (c2 := .int .i64 xw) rfl ?_
  intro g2 w2 hb_g2 he2 hg_g2 m0 m1 m2
  go_wp2_with (with_reducible refine stop_box ?_)
  refine Stop.go ?_
  refine ev_box3 (c0 := .string yb) (c1 := .int .i64 yc) (c2 := .int .i64 yw) rfl ?_
  intro g3 w3 hb_g3 he3 hg_g3 n0 n1 n2
  have he13 := he2.trans he3
  replace k0 := he13.cell k0
  replace k1 := he13.cell k1
  replace k2 := he13.cell k2
  replace m0 := he3.cell m0
  replace m1 := he3.cell m1
  replace m2 := he3.cell m2
  have HE := Lib.hid (he1.trans he13)
  have R1 := Lib.hid (r1.ext (he1.trans he13))
  clear he1 he2 he3 he13 hb_g1 hg_g1 hb_g2 hg_g2 hb_g3 hg_g3 r0 r1 r2 hv
  by_cases hw : xw = yw
  · have e1 : (xw != yw) = false := by rw [hw]; exact bne_self_eq_false _
    by_cases hc : xc = yc
    · have e2 : (xc != yc) = false := by rw [hc]; exact bne_self_eq_false _
      have HLT : idx g.brs xb < idx g.brs yb := by
        have := HC.out
        unfold cmpG at this
        simp only at this
        rw [if_neg (by omega), if_neg (by omega)] at this
        omega
      have HI1 : Hid (∀ y : Up w3, _) := Lib.hid fun y : Up w3 => quietU ((ref26_Index g.brs xb A1 c1 y.u (R1.out.ext y.ext)).mono fun _ _ ⟨h1, h2⟩ => ⟨h1, h2 ▸ Ext.refl y.u⟩)
      have HI2 : Hid (∀ y : Up w3, _) := Lib.hid fun y : Up w3 => quietU ((ref26_Index g.brs yb A1 c1 y.u (R1.out.ext y.ext)).mono fun _ _ ⟨h1, h2⟩ => ⟨h1, h2 ▸ Ext.refl y.u⟩)
      generalize idx g.brs xb = p at *
      generalize idx g.brs yb = q at *
      have y0 : ∀ y : Up w3, y.u.cell? _ = _ := fun y => y.ext.cell k0
      have y1 : ∀ y : Up w3, y.u.cell? _ = _ := fun y => y.ext.cell k1
      have y2 : ∀ y : Up w3, y.u.cell? _ = _ := fun y => y.ext.cell k2
      have y3 : ∀ y : Up w3, y.u.cell? _ = _ := fun y => y.ext.cell m0
      have y4 : ∀ y : Up w3, y.u.cell? _ = _ := fun y => y.ext.cell n0
      clear hw hc HC
      go_wp2
      refine wp_quietU (by kernel_rfl) (by kernel_rfl) ?_
      repeat (go_big_quiet_step ((first | (go_at_call 100; with_reducible first | exact HI1.out _ | exact HI2.out _))))
      refine wpQuiet_nil ?_
      rintro _ ⟨y, rfl⟩
      have HEy : Hid (Ext w y.u) := Lib.hid (HE.out.trans y.ext)
      clear HI1 HI2 y0 y1 y2 y3 y4
      go_wp2
      go_ret
      exact ⟨rfl, HEy.out⟩
    · have e2 : (xc != yc) = true := bne_iff_ne.2 hc
      have hlt : xc < yc := by
        have := HC.out
        unfold cmpG at this
        simp only at this
        rw [if_neg (by omega), if_pos (by omega)] at this
        omega
      clear HC hw
      go_wp2
      go_ret
      exact ⟨rfl, HE.out⟩
  · have e1 : (xw != yw) = true := bne_iff_ne.2 hw
    have hlt : yw < xw := by
      have := HC.out
      unfold cmpG at this
      simp only at this
      rw [if_pos (by omega)] at this
      omega
    clear HC
    go_wp2
    go_ret
    exact ⟨rfl, HE.out⟩
end Go.Proofs.YtgibdafkidkahaaGreatDoor
