/- Derived: walks: the classes of all changes, as a map. -/
import Derived.Test.YtgibdafkidkahaaGreatDoorLedM
set_option linter.unusedVariables false
set_option linter.unusedSimpArgs false
namespace Go.Proofs.YtgibdafkidkahaaGreatDoor
open Go.RowKit

def clsMap (l : List Kn) : List (Str × Int) := l.foldl (fun m k => mset m k.chg k.cls) []
theorem clsMap_snoc (l : List Kn) (x : Kn) : clsMap (l ++ [x]) = mset (clsMap l) x.chg x.cls := by unfold clsMap; rw [List.foldl_append]; rfl
theorem clsMap_take {l : List Kn} {k : Nat} {x : Kn} (h : l[k]? = some x) : clsMap (l.take (k + 1)) = mset (clsMap (l.take k)) x.chg x.cls := by
  rw [List.take_add_one, h]
  exact clsMap_snoc _ _
theorem clsMap_none {l : List Kn} {s : Str} (h : ∀ x ∈ l, x.chg ≠ s) : mget (clsMap l) s = none := by
  induction l using snoc_ind with
  | h0 => rfl
  | h1 l x ih =>
    rw [clsMap_snoc, mget_set, if_neg (Ne.symm (h x (by simp)))]
    exact ih fun y hy => h y (by simp [hy])
theorem clsMap_some {l : List Kn} (hn : NoDup l) {i : Nat} {x : Kn} (hx : l[i]? = some x) : mget (clsMap l) x.chg = some x.cls := by
  induction l using snoc_ind with
  | h0 => simp at hx
  | h1 l y ih =>
    rw [clsMap_snoc, mget_set]
    have hi := (List.getElem?_eq_some_iff.1 hx).1
    rw [List.length_append, List.length_singleton] at hi
    rcases (show i < l.length ∨ i = l.length by omega) with h | rfl
    · have hne : x.chg ≠ y.chg := hn l.length i y x h (by simp) hx
      rw [if_neg hne]
      rw [List.getElem?_append_left h] at hx
      refine ih (fun a b z u hab hz hu => ?_) hx
      have ha := (List.getElem?_eq_some_iff.1 hz).1
      have hb := (List.getElem?_eq_some_iff.1 hu).1
      exact hn a b z u hab (by rw [List.getElem?_append_left ha]; exact hz) (by rw [List.getElem?_append_left hb]; exact hu)
    · rw [List.getElem?_append_right (Nat.le_refl _), Nat.sub_self] at hx
      simp at hx
      subst hx
      rw [if_pos rfl]
theorem clsMap_cls {g : Lg} (hn : NoDup g.known) (s : Str) : (mget (clsMap g.known) s).isSome = decide (∃ x ∈ g.known, x.chg = s) ∧ ((∃ x ∈ g.known, x.chg = s) → mget (clsMap g.known) s = some (cls g s)) := by
  rcases cls_cases g s with ⟨h, hne⟩ | ⟨x, hx, he, hc⟩
  · have : ¬ ∃ x ∈ g.known, x.chg = s := fun ⟨x, hx, he⟩ => hne x hx he
    rw [clsMap_none hne]
    exact ⟨by rw [decide_eq_false this]; rfl, fun h => absurd h this⟩
  · obtain ⟨i, hi⟩ := List.getElem?_of_mem hx
    have h1 := clsMap_some hn hi
    rw [he] at h1
    rw [h1, hc]
    refine ⟨?_, fun _ => rfl⟩
    rw [Option.isSome_some, eq_comm, decide_eq_true_eq]
    exact ⟨x, hx, he⟩
theorem clsMap_le (l : List Kn) : (clsMap l).length ≤ l.length := by
  induction l using snoc_ind with
  | h0 => simp [clsMap]
  | h1 l x ih => rw [clsMap_snoc, mset_length, List.length_append, List.length_singleton]; split <;> omega
theorem clsMap_nodup {l : List Kn} : (clsMap l).length = l.length ↔ NoDup l := by
  induction l using snoc_ind with
  | h0 => simp [clsMap, NoDup]
  | h1 l y ih =>
    have hle := clsMap_le l
    rw [clsMap_snoc, mset_length, List.length_append, List.length_singleton]
    have hsub : NoDup (l ++ [y]) → NoDup l := fun hn a b z u hab hz hu => by
      have ha := (List.getElem?_eq_some_iff.1 hz).1
      have hb := (List.getElem?_eq_some_iff.1 hu).1
      exact hn a b z u hab (by rw [List.getElem?_append_left ha]; exact hz) (by rw [List.getElem?_append_left hb]; exact hu)
    cases hm : mget (clsMap l) y.chg with
    | none =>
      simp only [Option.isSome_none, Bool.false_eq_true, if_false]
      constructor
      · intro h
        have hl := ih.1 (by omega)
        intro a b z u hab hz hu
        have ha := (List.getElem?_eq_some_iff.1 hz).1
        rw [List.length_append, List.length_singleton] at ha
        have hbl : b < l.length := by omega
        rw [List.getElem?_append_left hbl] at hu
        rcases (show a < l.length ∨ a = l.length by omega) with h1 | rfl
        · rw [List.getElem?_append_left h1] at hz
          exact hl a b z u hab hz hu
        · rw [List.getElem?_append_right (Nat.le_refl _), Nat.sub_self] at hz
          simp at hz
          subst hz
          intro he
          have := clsMap_some hl hu
          rw [he, hm] at this
          cases this
      · intro h
        rw [ih.2 (hsub h)]
    | some v =>
      simp only [Option.isSome_some, if_true]
      constructor
      · intro h; omega
      · intro h
        have hl := ih.2 (hsub h)
        exfalso
        have : ∀ x ∈ l, x.chg ≠ y.chg := by
          intro x hx
          obtain ⟨b, hb⟩ := List.getElem?_of_mem hx
          have hbl := (List.getElem?_eq_some_iff.1 hb).1
          exact h l.length b y x hbl (by simp) (by rw [List.getElem?_append_left hbl]; exact hb)
        rw [clsMap_none this] at hm
        cases hm

set_option maxHeartbeats 4000000 in
theorem ledger_classes (g : Lg) (v : Value) (w : World) (hv : LgV w v g) :
    Calls Tryz.prog 103 #[v] w fun e w' => ∃ b, e = .returned (.map (some b)) ∧ MapSI w' b (clsMap g.known) ∧ w.heap.size ≤ b ∧ Ext w w' := by
  obtain ⟨A0, c0, A1, c1, A2, c2, rfl, h0, h1, h2, r0, r1, r2⟩ := hv.ex
  have hm := r0.1
  go_enter Tryz.func103, Tryz.ntmps103
  go_wp2_with (with_reducible refine stop_box ?_)
  refine Stop.go ?_
  refine ev_box3 (c0 := .slice A0 g.known.length c0) (c1 := .slice A1 g.brs.length c1) (c2 := .slice A2 g.evs.length c2) rfl ?_
  intro g1 w1 hb_g1 he hg_g1 k0 k1 k2
  go_wp2_with (with_reducible refine stop_makeMap ?_)
  refine Stop.go ?_
  refine ev_makeMap Tryz.underlying171 ?_
  have hm0 : MapSI (w1.alloc (.map #[] 0)) w1.heap.size [] := isMap_new w1
  have he0 : Ext w1 (w1.alloc (.map #[] 0)) := (Ext.refl w1).alloc _
  generalize w1.alloc (.map #[] 0) = w2 at hm0 he0
  obtain ⟨b, hg⟩ : ∃ b, b = w1.heap.size := ⟨_, rfl⟩
  rw [← hg] at hm0
  rw [← hg]
  have HB : Hid (w1.heap.size ≤ b) := Lib.hid (by omega)
  have HGB : Hid (g1 < w1.heap.size) := Lib.hid (blk_lt hb_g1)
  have HM0 := Lib.hid hm0
  have HE0 := Lib.hid he0
  have HE1 := Lib.hid he
  have R0 := Lib.hid (r0.ext he)
  replace k0 := he0.cell k0
  clear hg hm0 he0 he r0 r1 r2 hv hb_g1 hg_g1 k1 k2
  go_wp2
  go_loopw [10] (fun i wr => ∃ k : Nat, k ≤ g.known.length ∧ i = .int .i64 (k : Int) ∧ Hid (MapSI wr b (clsMap (g.known.take k))) ∧ Hid (Ext w1 wr)) (fun i _ => g.known.length - (intOf i).toNat)
  case atStart => exact ⟨0, Nat.zero_le _, rfl, HM0.out, HE0.out⟩
  case round =>
    clear HM0 HE0
    obtain ⟨k, hk, rfl, HM, hE⟩ := hrel
    by_cases hlt : k < g.known.length
    · have hx : g.known[k]? = some g.known[k] := List.getElem?_eq_getElem hlt
      generalize g.known[k] = x at hx
      obtain ⟨ad, rfl, q0, q1⟩ := (R0.out.ext hE.out).kn hx
      have HT : Hid (clsMap (g.known.take (k + 1)) = mset (clsMap (g.known.take k)) x.chg x.cls) := Lib.hid (clsMap_take hx)
      clear hx
      go_wp2_with (first | ((with_reducible refine ev_var (v := .agg #[.string x.chg, .int .i64 x.cls]) _ zKn ?hd ?hx ?hs ?h1 ?_); (case hd => exact fun _ => rfl); (case hx => exact fun _ => rfl); (case hs => rfl); (case h1 => exact one2 rfl rfl); intro gx w3 hb he hgx; have m0 := (blk_cell hb 0).trans rfl; have m1 := (blk_cell hb 1).trans rfl) | (with_reducible refine stop_mapUpdate ?_))
      refine Stop.go ?_
      refine ev_putSI rfl rfl rfl rfl (IsMap.ext HM.out he) ?_
      intro w4 hm4 ht4
      have HM4 : Hid (MapSI w4 b (clsMap (g.known.take (k + 1)))) := Lib.hid (by rw [HT.out]; exact hm4)
      have HE4 := Lib.hid (ht4.ext (hE.out.trans he) HB.out)
      clear HM hE he ht4 hm4 q0 q1 m0 m1 hb hgx HT
      go_wp2
      go_roundw
      case rel => exact ⟨k + 1, by omega, by go_num, HM4.out, HE4.out⟩
      case measure => simp [intOf]; omega
    · have HM2 : Hid (MapSI wr b (clsMap g.known)) := Lib.hid (by have := HM.out; rw [List.take_of_length_le (by omega)] at this; exact this)
      have HE2 : Hid (Ext w wr) := Lib.hid (HE1.out.trans hE.out)
      have HB2 : Hid (w.heap.size ≤ b) := Lib.hid (Nat.le_trans HE1.out.size HB.out)
      clear HM
      go_wp2
      go_ret
      exact ⟨_, rfl, HM2.out, HB2.out, HE2.out⟩
end Go.Proofs.YtgibdafkidkahaaGreatDoor
