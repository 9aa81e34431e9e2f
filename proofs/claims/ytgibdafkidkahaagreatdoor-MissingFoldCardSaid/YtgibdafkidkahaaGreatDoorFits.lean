/- Derived: walks: where the marks of branches begin, and whether counts fit. -/
import Derived.Test.YtgibdafkidkahaaGreatDoorMap
import Derived.Test.YtgibdafkidkahaaGreatDoorViews
import Derived.Test.YtgibdafkidkahaaGreatDoorCheckB
import Derived.StillTailTactics
set_option linter.unusedVariables false
set_option linter.unusedSimpArgs false
namespace Go.Proofs.YtgibdafkidkahaaGreatDoor
open Go.RowKit

/-! ### the plain part -/
/-- Where the marks of the first branches end. -/
def ends (l : List Br) (cnt : List Int) : Nat → List (Str × Int)
  | 0 => []
  | k + 1 => mset (ends l cnt k) (l.getD k default).name ((l.getD k default).at_ + cnt.getD k 0)
theorem uniq_inj {l : List Br} (hu : Uniq l) {i j : Nat} {x y : Br} (hx : l[i]? = some x) (hy : l[j]? = some y) (h : x.name = y.name) : i = j := by
  have h1 := hu i x hx
  have h2 := hu j y hy
  rw [h, h2] at h1
  omega
theorem ends_get {l : List Br} (hu : Uniq l) {cnt : List Int} : ∀ (k : Nat), k ≤ l.length → ∀ {j : Nat} {x : Br}, j < k → l[j]? = some x → mget (ends l cnt k) x.name = some (x.at_ + cnt.getD j 0)
  | 0, _, j, x, hj, _ => by omega
  | k + 1, hk, j, x, hj, hx => by
    have hy : l[k]? = some l[k] := List.getElem?_eq_getElem (by omega)
    have hg : l.getD k default = l[k] := by rw [List.getD_eq_getElem?_getD, hy]; rfl
    rw [ends, mget_set, hg]
    split
    · rename_i hn
      have := uniq_inj hu hx hy hn
      subst this
      rw [hx] at hy; cases hy; rfl
    · rename_i hn
      have hjk : j ≠ k := fun e => by subst e; rw [hx] at hy; cases hy; exact hn rfl
      exact ends_get hu k (by omega) (by omega) hx
theorem vw_len {l : List Br} (hl : checkB l = 0) {cnt : List Int} (hc : CntOk l cnt) {j : Nat} (hj : j < l.length) (hv : vok l cnt j = true) : ((vwStep l cnt (vws l cnt j) j).length : Int) = (l.getD j default).at_ + cnt.getD j 0 := by
  have hx : l[j]? = some l[j] := List.getElem?_eq_getElem hj
  have hg : l.getD j default = l[j] := by rw [List.getD_eq_getElem?_getD, hx]; rfl
  obtain ⟨h0, h1, h2⟩ := at_range hl hx
  have hcj : 0 ≤ cnt.getD j 0 := by
    rw [List.getD_eq_getElem?_getD]
    cases h : cnt[j]? with
    | none => simp
    | some y => have := hc.2 j y h; simp; omega
  unfold vwStep
  rw [List.length_append, ownMks_length, hg]
  by_cases hj0 : j = 0
  · have := (h2 hj0).1
    rw [if_pos hj0, this, List.length_nil]; omega
  · rw [if_neg hj0, List.length_take]
    simp only [vok, hj0, decide_false, Bool.false_or, decide_eq_true_eq, hg] at hv
    omega
theorem vok_end {l : List Br} (hl : checkB l = 0) {cnt : List Int} (hc : CntOk l cnt) {k : Nat} {x : Br} (hx : l[k]? = some x) (hk : 0 < k) (hv : ∀ j, j < k → vok l cnt j = true) :
    vok l cnt k = decide (x.at_ ≤ (mget (ends l cnt k) x.frm).getD 0) := by
  have hkl : k < l.length := (List.getElem?_eq_some_iff.1 hx).1
  have hg : l.getD k default = x := by rw [List.getD_eq_getElem?_getD, hx]; rfl
  obtain ⟨h0, h1⟩ := idx_from hl hx hk
  obtain ⟨j, y, hj, hy, hn⟩ := idx_at h0
  have hjk : j < k := by omega
  have hgy : l.getD j default = y := by rw [List.getD_eq_getElem?_getD, hy]; rfl
  have hjl : j < l.length := by omega
  rw [← hn, ends_get (checkB_zero hl).2.1 k (by omega) hjk hy]
  have hlen := vw_len hl hc hjl (hv j hjk)
  rw [hgy] at hlen
  unfold vok stem
  rw [hg, hj, Int.toNat_natCast, List.getD_eq_getElem?_getD, vws_get hjk]
  simp only [Option.getD_some, ← hlen]
  simp [Nat.ne_of_gt hk]
/-- The error of a table and counts. -/
def fitsB (l : List Br) (cnt : List Int) : Int :=
  if checkB l ≠ 0 then checkB l else if cnt.length ≠ l.length then 2 else if cnt.any (fun n => decide (n < 0) || decide (40 < n)) then 2 else if fitsOk l cnt then 0 else 16
theorem fitsB_bad {l : List Br} {cnt : List Int} (h : checkB l ≠ 0) : fitsB l cnt = checkB l := if_pos h
theorem fitsB_len {l : List Br} {cnt : List Int} (h : checkB l = 0) (h1 : cnt.length ≠ l.length) : fitsB l cnt = 2 := by rw [fitsB, if_neg (by simp [h]), if_pos h1]
theorem fitsB_cnt {l : List Br} {cnt : List Int} (h : checkB l = 0) (h2 : cnt.any (fun n => decide (n < 0) || decide (40 < n)) = true) : fitsB l cnt = 2 := by rw [fitsB, if_neg (by simp [h]), if_pos h2]; split <;> rfl
theorem fitsB_ok {l : List Br} {cnt : List Int} (h : checkB l = 0) (hc : CntOk l cnt) : fitsB l cnt = if fitsOk l cnt then 0 else 16 := by
  rw [fitsB, if_neg (by simp [h]), if_neg (by simp [hc.1]), if_neg]
  rw [Bool.not_eq_true, List.any_eq_false]
  intro x hx
  obtain ⟨i, hi⟩ := List.getElem?_of_mem hx
  have := hc.2 i x hi
  simp; omega
theorem fitsB_zero {l : List Br} {cnt : List Int} (h : fitsB l cnt = 0) : checkB l = 0 ∧ CntOk l cnt ∧ fitsOk l cnt = true := by
  unfold fitsB at h
  split at h
  · rename_i h1; exact absurd h h1
  · rename_i h1
    split at h
    · cases h
    · rename_i h2
      split at h
      · cases h
      · rename_i h3
        split at h
        · rename_i h4
          refine ⟨by simpa using h1, ⟨by simpa using h2, fun i y hy => ?_⟩, h4⟩
          rw [Bool.not_eq_true, List.any_eq_false] at h3
          have := h3 y (List.mem_of_getElem? hy)
          simp at this
          omega
        · cases h
theorem cntOk_of {l : List Br} {cnt : List Int} (h1 : cnt.length = l.length) (h2 : cnt.any (fun n => decide (n < 0) || decide (40 < n)) = false) : CntOk l cnt := by
  refine ⟨h1, fun i y hy => ?_⟩
  rw [List.any_eq_false] at h2
  have := h2 y (List.mem_of_getElem? hy)
  simp at this
  omega

/-! ### the walks -/
theorem Own.turned {α : Type} {E : El α} (hf : E.Flat) {e B g : Nat} {w w' : World} {v : Value} {xs : List α} (h : Own E e B w v xs) (ht : Turned g w w') (hne : v.ownBlock ≠ some g) : Own E e B w' v xs := by
  obtain ⟨css, h1, h2⟩ := h
  refine ⟨css, h1.kept (row := some g) ⟨ht.os, ht.tape, ht.output, by rw [ht.size]; exact Nat.le_refl _, fun i hi hne => ht.block i (fun e => hne (by rw [e]))⟩ ?_, h2.imp fun _ _ hk => hf _ _ _ _ _ _ hk⟩
  cases hv : v.ownBlock with
  | none => simp
  | some b => rw [hv] at hne; simp at hne ⊢; exact hne
theorem IsMap.grown {κ β : Type} [DecidableEq κ] {ke : κ → Value} {ve : β → Value} {w w' : World} {b : Nat} {m : List (κ × β)} {row : Option Nat} (h : IsMap ke ve w b m) (hg : w.grownBy w' row) (hne : row ≠ some b) : IsMap ke ve w' b m := by
  obtain ⟨es, clock, h1, h2⟩ := h
  exact ⟨es, clock, (hg.block b (blk_lt h1) (fun e => hne e.symm)).trans h1, h2⟩
theorem grown_cell {w w' : World} {row : Option Nat} (h : w.grownBy w' row) {g i : Nat} {v : Value} (hg : g < w.heap.size) (hne : row ≠ some g) (hc : w.cell? ⟨g, i, none⟩ = some v) : w'.cell? ⟨g, i, none⟩ = some v :=
  (World.cell?_of_block (h.block g hg fun e => hne e.symm)).trans hc
def encI (n : Int) : Value := .int .i64 n
/-- A map from names to numbers. -/
abbrev MapSI (w : World) (g : Nat) (m : List (Str × Int)) : Prop := IsMap Value.string encI w g m
theorem keyS : KeyOk Tryz.prog 9 Value.string := keyStr Tryz.underlying9
theorem zeroI (w : World) : (zeroValue 3).run Tryz.prog w = .ok (encI 0) w := by kernel_rfl
theorem MapSI.look {w : World} {g : Nat} {m : List (Str × Int)} (h : MapSI w g m) (k : Str) : (Instr.lookup 171 (.map (some g)) (.string k) false).run Tryz.prog w = .ok (.int .i64 ((mget m k).getD 0)) w :=
  (run_look keyS Tryz.underlying171 zeroI h k).1
theorem MapSI.look2 {w : World} {g : Nat} {m : List (Str × Int)} (h : MapSI w g m) (k : Str) : (Instr.lookup 171 (.map (some g)) (.string k) true).run Tryz.prog w = .ok (.tuple #[.int .i64 ((mget m k).getD 0), .bool (mget m k).isSome]) w :=
  (run_look keyS Tryz.underlying171 zeroI h k).2
section
variable {ops : Array Oper} {rest : List Oper} {a : Act} {Q : Exit → Act → World → Prop} {w : World}
theorem ev_makeMap {P : Program} {d : Option Tmp} {t ty : TypeId} {pos : String} {af : Array Edge} {kt et : TypeId} (ht : P.underlying t = some (.map kt et))
    (h : wpList P ops Q rest (a.put d (.map (some w.heap.size))) (w.alloc (.map #[] 0))) :
    wpList P ops Q ({ dst := d, op := .makeMap t none, type := ty, pos := pos, after := af, guard := none } :: rest) a w := by
  refine wp_run rfl ?_ h
  simp [execOp, Instr.makeMap, go_sem]
theorem ev_putSI {t ty : TypeId} {p x y : Operand} {pos : String} {af : Array Edge} {g : Nat} {m : List (Str × Int)} {k : Str} {v : Int} (ht : t = 171) (hp : a.eval p = .map (some g)) (hx : a.eval x = .string k) (hy : a.eval y = .int .i64 v) (hm : MapSI w g m)
    (h : ∀ w1, MapSI w1 g (mset m k v) → Turned g w w1 → wpList Tryz.prog ops Q rest a w1) :
    wpList Tryz.prog ops Q ({ dst := none, op := .mapUpdate t p x y, type := ty, pos := pos, after := af, guard := none } :: rest) a w := by
  subst ht
  obtain ⟨w1, hr, h1, h2⟩ := run_put keyS Tryz.underlying171 hm k v
  refine wpList_plain rfl fun K hK => ?_
  unfold Oper.wp
  have : (execOp a.eval { dst := none, op := .mapUpdate 171 p x y, type := ty, pos := pos, after := af, guard := none }).run Tryz.prog w = .ok .skip w1 := by
    simp only [execOp, hp, hx, hy, Sem.run_bind]
    rw [show (Value.int .i64 v) = encI v from rfl, hr]
    rfl
  rw [this]
  exact hK _ _ (h w1 h1 h2)
end

set_option maxRecDepth 100000 in
set_option maxHeartbeats 4000000 in
theorem branch_starts (l : List Br) (cnt : List Int) (A A2 : Option Addr) (c c2 : Nat) (w : World) (hl : Rd elBr w A l) (hr2 : Rd elInt w A2 cnt) (hck : checkB l = 0) (hcnt : CntOk l cnt) :
    Calls Tryz.prog 243 #[.slice A l.length c, .slice A2 cnt.length c2] w fun e w' => (∃ r, e = .returned (.tuple #[r, .bool (fitsOk l cnt)])) ∧ Ext w w' := by
  have hl8 := (checkB_zero hck).1
  have hcl : l.length ≤ cnt.length := by have := hcnt.1; omega
  go_enter Tryz.func243, Tryz.ntmps243
  go_wp2_with (with_reducible refine stop_makeMap ?_)
  refine Stop.go ?_
  refine ev_makeMap Tryz.underlying171 ?_
  have hm0 : MapSI (w.alloc (.map #[] 0)) w.heap.size [] := isMap_new w
  have he0 : Ext w (w.alloc (.map #[] 0)) := (Ext.refl w).alloc _
  generalize w.alloc (.map #[] 0) = w1 at hm0 he0
  obtain ⟨g, hg⟩ : ∃ g, g = w.heap.size := ⟨_, rfl⟩
  rw [← hg] at hm0
  rw [← hg]
  have HG : Hid (w.heap.size ≤ g) := Lib.hid (by omega)
  clear hg
  have HM0 := Lib.hid hm0
  have HE0 := Lib.hid he0
  clear hm0 he0
  go_wp2
  go_loopw [7, 13] (fun v i wr => ∃ k : Nat, k ≤ l.length ∧ i = .int .i64 k ∧ Hid (∃ xs : List Int, xs.length = k ∧ Own elInt 3 w.heap.size wr v xs ∧ v.ownBlock ≠ some g) ∧ Hid (MapSI wr g (ends l cnt k)) ∧ Hid (∀ j, j < k → vok l cnt j = true) ∧ Hid (Ext w wr)) (fun _ i _ => l.length - (intOf i).toNat)
  case atStart => exact ⟨0, Nat.zero_le _, rfl, ⟨[], rfl, Own.nil _ _ _ _, by simp [Value.ownBlock]⟩, HM0.out, fun j hj => absurd hj (by omega), HE0.out⟩
  case round =>
    clear HM0 HE0
    obtain ⟨k, hk, rfl, HO, HM, hn, hE⟩ := hrel
    by_cases hlt : k < l.length
    · have hx : l[k]? = some l[k] := List.getElem?_eq_getElem hlt
      generalize l[k] = x at hx
      have hy : cnt[k]? = some cnt[k] := List.getElem?_eq_getElem (by omega)
      generalize cnt[k] = y at hy
      have hyr := hcnt.2 k y hy
      obtain ⟨ad, rfl, h0, h1, h2⟩ := (hl.ext hE.out).br hx
      obtain ⟨ad2, rfl, h3⟩ := (hr2.ext hE.out).int hy
      have har := at_range hck hx
      have ha0 := har.1
      have ha1 := har.2.1
      have hgx : l.getD k default = x := by rw [List.getD_eq_getElem?_getD, hx]; rfl
      have hgy : cnt.getD k 0 = y := by rw [List.getD_eq_getElem?_getD, hy]; rfl
      have HEND : Hid (ends l cnt (k + 1) = mset (ends l cnt k) x.name (x.at_ + y)) := Lib.hid (by rw [ends, hgx, hgy])
      have HV : Hid (0 < k → vok l cnt k = decide (x.at_ ≤ (mget (ends l cnt k) x.frm).getD 0)) := Lib.hid fun h => vok_end hck hcnt hx h hn.out
      have hy0 := hyr.1
      have hy1 := hyr.2
      have HY := Lib.hid hy
      clear hx hy hyr har hgx hgy
      have HLK : Hid (∀ w2, Ext wr w2 → (Instr.lookup 171 (.map (some g)) (.string x.frm) false).run Tryz.prog w2 = .ok (.int .i64 ((mget (ends l cnt k) x.frm).getD 0)) w2) := Lib.hid fun w2 he => MapSI.look (HM.out.ext he) x.frm
      generalize (mget (ends l cnt k) x.frm).getD 0 = z at HLK HV
      have HGG : Hid (g < wr.heap.size) := Lib.hid HM.out.lt
      by_cases hbad : 0 < k ∧ z < x.at_
      · have hk1 : (0 : Int) < (k : Int) := by omega
        have hz := hbad.2
        have hk0 := hbad.1
        clear hbad
        go_wp2_with (first | ((with_reducible refine ev_vari (v := .agg #[.string x.name, .string x.frm, .int .i64 x.at_]) _ zBr ?hd ?hx ?hs ?h1 ?_); (case hd => exact fun _ _ => rfl); (case hx => exact fun _ _ => rfl); (case hs => rfl); (case h1 => exact one3 rfl rfl rfl); intro gx w2 hb he hgx; have k0 := (blk_cell hb 0).trans rfl; have k1 := (blk_cell hb 1).trans rfl; have k2 := (blk_cell hb 2).trans rfl; have hlk := HLK.out _ he))
        go_ret2
        refine ⟨⟨.slice none 0 0, ?_⟩, hE.out.trans he⟩
        rw [fitsOk_f hlt (by rw [HV.out hk0]; simp; omega)]; rfl
      · have HV2 : Hid (vok l cnt k = true) := Lib.hid (by
          by_cases h : 0 < k
          · rw [HV.out h]; simp; omega
          · simp [vok]; omega)
        rcases (show k = 0 ∨ (0 < k ∧ x.at_ ≤ z) by omega) with hk0 | ⟨hk0, hz⟩
        · have hk1 : ¬ (0 : Int) < (k : Int) := by omega
          clear hbad hk0
          go_wp2_with (first | ((with_reducible refine ev_vari (v := .agg #[.string x.name, .string x.frm, .int .i64 x.at_]) _ zBr ?hd ?hx ?hs ?h1 ?_); (case hd => exact fun _ _ => rfl); (case hx => exact fun _ _ => rfl); (case hs => rfl); (case h1 => exact one3 rfl rfl rfl); intro gx w2 hb he hgx; have k0 := (blk_cell hb 0).trans rfl; have k1 := (blk_cell hb 1).trans rfl; have k2 := (blk_cell hb 2).trans rfl; have hlk := HLK.out _ he) | (with_reducible refine stop_lit ?_))
          refine Stop.go ?_
          obtain ⟨xs, q1, q2, q3⟩ := HO.out
          refine ev_appInt x.at_ rfl (fun _ => rfl) (fun _ => rfl) (q2.ext he) (hE.out.trans he) rfl (by omega) ?_
          intro u v3 w3 ho2 he2 hgr hat
          have HO3 : Hid (∃ xs : List Int, xs.length = k + 1 ∧ Own elInt 3 w.heap.size w3 v3 xs ∧ v3.ownBlock ≠ some g) := Lib.hid ⟨_, by simp [q1], ho2, by
            rcases hat with h | ⟨b, h, hb⟩
            · rw [h]; exact q3
            · rw [h]; intro e; cases e; have := HGG.out; have := he.size; omega⟩
          have HM3 : Hid (MapSI w3 g (ends l cnt k)) := Lib.hid ((HM.out.ext he).grown hgr q3)
          have HE3 := Lib.hid he2
          have k0' := grown_cell hgr (blk_lt hb) (fun e => by have := q2.blk _ e; omega) k0
          have k2' := grown_cell hgr (blk_lt hb) (fun e => by have := q2.blk _ e; omega) k2
          obtain ⟨ad3, e3, h3'⟩ := (hr2.ext he2).int HY.out
          cases e3
          clear hgr hat ho2 he2 q1 q2 q3 k0 k1 k2 hb he hgx hlk h0 h1 h2 h3 HO HM hE HLK HGG HV
          go_wp2
          have hkc : k < cnt.length := by omega
          have hsum : IntKind.i64.wrap (x.at_ + y) = x.at_ + y := IntWalk.i64_in _ (by omega)
          go_still_tail 10, (by kernel_rfl)
          change wpList _ _ _ _ _ w3.drew
          have HO4 : Hid (∃ xs : List Int, xs.length = k + 1 ∧ Own elInt 3 w.heap.size w3.drew v3 xs ∧ v3.ownBlock ≠ some g) := HO3
          have HM4 : Hid (MapSI w3.drew g (ends l cnt k)) := HM3
          have HE4 : Hid (Ext w w3.drew) := Lib.hid HE3.out.drew
          clear HO3 HM3 HE3 k0' k2' h3' hsum
          generalize w3.drew = w4 at HO4 HM4 HE4
          refine ev_putSI rfl rfl rfl rfl HM4.out ?_
          intro w5 hm5 ht5
          have HO5 : Hid (∃ xs : List Int, xs.length = k + 1 ∧ Own elInt 3 w.heap.size w5 v3 xs ∧ v3.ownBlock ≠ some g) := Lib.hid (by obtain ⟨xs, q1, q2, q3⟩ := HO4.out; exact ⟨xs, q1, q2.turned flInt ht5 q3, q3⟩)
          have HM5 : Hid (MapSI w5 g (ends l cnt (k + 1))) := Lib.hid (by rw [HEND.out]; exact hm5)
          have HE5 := Lib.hid (ht5.ext HE4.out HG.out)
          clear HO4 HM4 HE4 hm5 ht5
          go_wp2
          go_roundw
          case rel =>
            refine ⟨k + 1, by omega, by go_num, HO5.out, HM5.out, ?_, HE5.out⟩
            intro i hi
            rcases Nat.lt_succ_iff_lt_or_eq.1 hi with h | rfl
            · exact hn.out i h
            · exact HV2.out
          case measure => simp [intOf]; omega
        · have hk1 : (0 : Int) < (k : Int) := by omega
          clear hbad hk0
          go_wp2_with (first | ((with_reducible refine ev_vari (v := .agg #[.string x.name, .string x.frm, .int .i64 x.at_]) _ zBr ?hd ?hx ?hs ?h1 ?_); (case hd => exact fun _ _ => rfl); (case hx => exact fun _ _ => rfl); (case hs => rfl); (case h1 => exact one3 rfl rfl rfl); intro gx w2 hb he hgx; have k0 := (blk_cell hb 0).trans rfl; have k1 := (blk_cell hb 1).trans rfl; have k2 := (blk_cell hb 2).trans rfl; have hlk := HLK.out _ he) | (with_reducible refine stop_lit ?_))
          refine Stop.go ?_
          obtain ⟨xs, q1, q2, q3⟩ := HO.out
          refine ev_appInt x.at_ rfl (fun _ => rfl) (fun _ => rfl) (q2.ext he) (hE.out.trans he) rfl (by omega) ?_
          intro u v3 w3 ho2 he2 hgr hat
          have HO3 : Hid (∃ xs : List Int, xs.length = k + 1 ∧ Own elInt 3 w.heap.size w3 v3 xs ∧ v3.ownBlock ≠ some g) := Lib.hid ⟨_, by simp [q1], ho2, by
            rcases hat with h | ⟨b, h, hb⟩
            · rw [h]; exact q3
            · rw [h]; intro e; cases e; have := HGG.out; have := he.size; omega⟩
          have HM3 : Hid (MapSI w3 g (ends l cnt k)) := Lib.hid ((HM.out.ext he).grown hgr q3)
          have HE3 := Lib.hid he2
          have k0' := grown_cell hgr (blk_lt hb) (fun e => by have := q2.blk _ e; omega) k0
          have k2' := grown_cell hgr (blk_lt hb) (fun e => by have := q2.blk _ e; omega) k2
          obtain ⟨ad3, e3, h3'⟩ := (hr2.ext he2).int HY.out
          cases e3
          clear hgr hat ho2 he2 q1 q2 q3 k0 k1 k2 hb he hgx hlk h0 h1 h2 h3 HO HM hE HLK HGG HV
          go_wp2
          have hkc : k < cnt.length := by omega
          have hsum : IntKind.i64.wrap (x.at_ + y) = x.at_ + y := IntWalk.i64_in _ (by omega)
          go_still_tail 10, (by kernel_rfl)
          change wpList _ _ _ _ _ w3.drew
          have HO4 : Hid (∃ xs : List Int, xs.length = k + 1 ∧ Own elInt 3 w.heap.size w3.drew v3 xs ∧ v3.ownBlock ≠ some g) := HO3
          have HM4 : Hid (MapSI w3.drew g (ends l cnt k)) := HM3
          have HE4 : Hid (Ext w w3.drew) := Lib.hid HE3.out.drew
          clear HO3 HM3 HE3 k0' k2' h3' hsum
          generalize w3.drew = w4 at HO4 HM4 HE4
          refine ev_putSI rfl rfl rfl rfl HM4.out ?_
          intro w5 hm5 ht5
          have HO5 : Hid (∃ xs : List Int, xs.length = k + 1 ∧ Own elInt 3 w.heap.size w5 v3 xs ∧ v3.ownBlock ≠ some g) := Lib.hid (by obtain ⟨xs, q1, q2, q3⟩ := HO4.out; exact ⟨xs, q1, q2.turned flInt ht5 q3, q3⟩)
          have HM5 : Hid (MapSI w5 g (ends l cnt (k + 1))) := Lib.hid (by rw [HEND.out]; exact hm5)
          have HE5 := Lib.hid (ht5.ext HE4.out HG.out)
          clear HO4 HM4 HE4 hm5 ht5
          go_wp2
          go_roundw
          case rel =>
            refine ⟨k + 1, by omega, by go_num, HO5.out, HM5.out, ?_, HE5.out⟩
            intro i hi
            rcases Nat.lt_succ_iff_lt_or_eq.1 hi with h | rfl
            · exact hn.out i h
            · exact HV2.out
          case measure => simp [intOf]; omega
    · have hkl : k = l.length := by omega
      subst hkl
      have hf : fitsOk l cnt = true := (fitsOk_iff l cnt).2 hn.out
      have HF := Lib.hid hf
      clear hf
      go_wp2
      go_ret2
      rw [HF.out]
      exact ⟨⟨_, rfl⟩, hE.out⟩

theorem fits_closure (w : World) : Tests 242 #[] w (fun x : Int => .int .i64 x) (fun n => decide (n < 0) || decide (40 < n)) := by
  intro x w' _
  go_enter Tryz.func242, Tryz.ntmps242
  by_cases h : x < 0
  · go_wp2
    go_ret
    exact ⟨by simp [h], Ext.refl _⟩
  · by_cases h2 : 40 < x
    · go_wp2
      go_ret
      exact ⟨by simp [h2], Ext.refl _⟩
    · go_wp2
      go_ret
      exact ⟨by simp [h, h2], Ext.refl _⟩
theorem branch_Fits (l : List Br) (cnt : List Int) (A A2 : Option Addr) (c c2 : Nat) (w : World) (hl : Rd elBr w A l) (hr2 : Rd elInt w A2 cnt) (hcap : l.length ≤ c) :
    Calls Tryz.prog 193 #[.slice A l.length c, .slice A2 cnt.length c2] w fun e w' => e = .returned (.int .i64 (fitsB l cnt)) ∧ Ext w w' := by
  have HC := Lib.hid (branch_Check l A c w hl hcap)
  by_cases hck : checkB l = 0
  · rw [hck] at HC
    go_enter Tryz.func193, Tryz.ntmps193
    by_cases hlen : cnt.length = l.length
    · have e1 : ((cnt.length : Int) != (l.length : Int)) = false := by rw [hlen]; simp
      have HLEN := Lib.hid hlen
      have HCK := Lib.hid hck
      clear hlen hck
      go_wp2_with (first | (go_at_call 199; refine HC.out.mono ?_; rintro e w1 ⟨rfl, he1⟩))
      refine (ContainsFunc_Int cnt A2 c2 242 _ (fun n => decide (n < 0) || decide (40 < n)) w1 (hr2.ext he1) (fun _ _ => by kernel_rfl) (fits_closure _)).mono ?_
      rintro e w2 ⟨rfl, he2⟩
      have HE2 := Lib.hid (he1.trans he2)
      clear he1 he2
      cases hany : cnt.any (fun n => decide (n < 0) || decide (40 < n)) with
      | true =>
        have HA := Lib.hid hany
        clear hany
        go_wp2
        go_ret
        exact ⟨ret_int (fitsB_cnt HCK.out HA.out).symm, HE2.out⟩
      | false =>
        have hok := cntOk_of HLEN.out hany
        have HST := Lib.hid (branch_starts l cnt A A2 c c2 w2 (hl.ext HE2.out) (hr2.ext HE2.out) HCK.out hok)
        have HF := Lib.hid (fitsB_ok HCK.out hok)
        clear hany hok
        cases hf : fitsOk l cnt with
        | true =>
          rw [hf] at HST HF
          clear hf
          go_wp2_with (first | (go_at_call 243; refine HST.out.mono ?_; rintro e w3 ⟨⟨r, rfl⟩, he3⟩))
          go_ret
          exact ⟨ret_int (HF.out.trans rfl).symm, HE2.out.trans he3⟩
        | false =>
          rw [hf] at HST HF
          clear hf
          go_wp2_with (first | (go_at_call 243; refine HST.out.mono ?_; rintro e w3 ⟨⟨r, rfl⟩, he3⟩))
          go_ret
          exact ⟨ret_int (HF.out.trans rfl).symm, HE2.out.trans he3⟩
    · have e1 : ((cnt.length : Int) != (l.length : Int)) = true := by rw [bne_iff_ne]; omega
      have HLEN := Lib.hid hlen
      have HCK := Lib.hid hck
      clear hlen hck
      go_wp2_with (first | (go_at_call 199; refine HC.out.mono ?_; rintro e w1 ⟨rfl, he1⟩))
      go_ret
      exact ⟨ret_int (fitsB_len HCK.out HLEN.out).symm, he1⟩
  · rw [fitsB_bad hck]
    go_enter Tryz.func193, Tryz.ntmps193
    have e1 : (checkB l != 0) = true := by rw [bne_iff_ne]; exact hck
    clear hck
    generalize checkB l = z at *
    go_wp2_with (first | (go_at_call 199; refine HC.out.mono ?_; rintro e w1 ⟨rfl, he1⟩))
    go_ret
    exact ⟨rfl, he1⟩

theorem ref26_Fits (l : List Br) (cnt : List Int) (A A2 : Option Addr) (c c2 : Nat) (w : World) (hl : Rd elBr w A l) (hr2 : Rd elInt w A2 cnt) (hcap : l.length ≤ c) :
    Calls Tryz.prog 99 #[.slice A l.length c, .slice A2 cnt.length c2] w fun e w' => e = .returned (.int .i64 (fitsB l cnt)) ∧ Ext w w' := by
  by_cases hck : checkB l = 0
  · have HC := Lib.hid (ref26_Check l A c w hl hcap)
    rw [hck] at HC
    go_enter Tryz.func99, Tryz.ntmps99
    by_cases hlen : cnt.length = l.length
    · have hcl : cnt.length ≤ 8 := by have := (checkB_zero hck).1; omega
      have e1 : ((cnt.length : Int) != (l.length : Int)) = false := by rw [hlen]; simp
      have HLEN := Lib.hid hlen
      have HCK := Lib.hid hck
      clear hlen hck
      go_wp2_with (first | (go_at_call 110; refine HC.out.mono ?_; rintro e w1 ⟨rfl, he1⟩; have HE1 := Lib.hid he1; clear he1))
      have HR := Lib.hid (hr2.ext HE1.out)
      go_loop [5] (fun i => ∃ k : Nat, k ≤ cnt.length ∧ i = .int .i64 k ∧ Hid (∀ (j : Nat) (y : Int), j < k → cnt[j]? = some y → 0 ≤ y ∧ y ≤ 40)) (fun i => cnt.length - (intOf i).toNat)
      case atStart => exact ⟨0, Nat.zero_le _, rfl, fun j y hj => absurd hj (by omega)⟩
      case round =>
        obtain ⟨k, hk, rfl, hn⟩ := hrel
        by_cases hlt : k < cnt.length
        · have hy : cnt[k]? = some cnt[k] := List.getElem?_eq_getElem hlt
          generalize cnt[k] = y at hy
          obtain ⟨ad, rfl, h0⟩ := HR.out.int hy
          have HY := Lib.hid hy
          clear hy
          by_cases hb : y < 0 ∨ 40 < y
          · have HA : Hid (cnt.any (fun n => decide (n < 0) || decide (40 < n)) = true) := Lib.hid (by
              rw [List.any_eq_true]
              exact ⟨y, List.mem_of_getElem? HY.out, by simpa using hb⟩)
            rcases hb with hb | hb
            · go_wp2
              go_ret
              exact ⟨ret_int (fitsB_cnt HCK.out HA.out).symm, HE1.out⟩
            · have hb2 : ¬ y < 0 := by omega
              go_wp2
              go_ret
              exact ⟨ret_int (fitsB_cnt HCK.out HA.out).symm, HE1.out⟩
          · have hb1 : ¬ y < 0 := by omega
            have hb2 : ¬ 40 < y := by omega
            clear hb
            go_wp2
            go_round
            case rel =>
              refine ⟨k + 1, by omega, by go_num, fun j z hj hz => ?_⟩
              rcases Nat.lt_succ_iff_lt_or_eq.1 hj with h | rfl
              · exact hn.out j z h hz
              · rw [HY.out] at hz; cases hz; omega
            case measure => simp [intOf]; omega
        · have hok : CntOk l cnt := ⟨HLEN.out, fun i y hy => hn.out i y (by have := (List.getElem?_eq_some_iff.1 hy).1; omega) hy⟩
          have HF := Lib.hid (fitsB_ok HCK.out hok)
          have HST := Lib.hid (ref26_views l cnt A A2 c c2 w1 (hl.ext HE1.out) HR.out HCK.out hok)
          clear hok
          cases hf : fitsOk l cnt with
          | true =>
            rw [hf] at HST HF
            clear hf
            go_wp2_with (first | (go_at_call 101; refine HST.out.mono ?_; rintro e w3 ⟨r, rfl, _, he3⟩))
            go_ret
            exact ⟨ret_int (HF.out.trans rfl).symm, HE1.out.trans he3⟩
          | false =>
            rw [hf] at HST HF
            clear hf
            go_wp2_with (first | (go_at_call 101; refine HST.out.mono ?_; rintro e w3 ⟨r, rfl, _, he3⟩))
            go_ret
            exact ⟨ret_int (HF.out.trans rfl).symm, HE1.out.trans he3⟩
    · have e1 : ((cnt.length : Int) != (l.length : Int)) = true := by rw [bne_iff_ne]; omega
      have HLEN := Lib.hid hlen
      have HCK := Lib.hid hck
      clear hlen hck
      go_wp2_with (first | (go_at_call 110; refine HC.out.mono ?_; rintro e w1 ⟨rfl, he1⟩))
      go_ret
      exact ⟨ret_int (fitsB_len HCK.out HLEN.out).symm, he1⟩
  · have HC : Hid (∀ w2, Ext w w2 → _) := Lib.hid fun w2 (he : Ext w w2) => ref26_Check l A c w2 (hl.ext he) hcap
    rw [fitsB_bad hck]
    go_enter Tryz.func99, Tryz.ntmps99
    have e1 : (checkB l != 0) = true := by rw [bne_iff_ne]; exact hck
    clear hck
    generalize checkB l = z at *
    go_wp2_with fail
    refine (HC.out w (Ext.refl w)).mono ?_
    rintro e w1 ⟨rfl, he1⟩
    go_wp2_with fail
    refine (HC.out w1 he1).mono ?_
    rintro e w2 ⟨rfl, he2⟩
    have HE2 := Lib.hid (he1.trans he2)
    clear he1 he2
    go_wp2
    go_ret
    exact ⟨rfl, HE2.out⟩
end Go.Proofs.YtgibdafkidkahaaGreatDoor
