/- Derived: what the arguments read as, in the walks' own words. -/
import Derived.Test.YtgibdafkidkahaaGreatDoorFxB
import Derived.Deep.Slices
import Derived.Deep.Strs
import Derived.Lib.SmallJoins
set_option linter.unusedVariables false
set_option linter.unusedSimpArgs false
namespace Go.Proofs.YtgibdafkidkahaaGreatDoor
open Go.RowKit Go.ChangeShapes Go.WideShapes Go.Deep
variable {α : Type}

/-- Whatever reads as a datum of type t is an element of E. -/
def Lf (E : El α) (t : TypeId) : Prop :=
  Tryz.prog.cellsOf t = E.sz ∧ ∀ {H : Type} {enc : TypeId × Value → H} {w : World} {base : Nat} {sp : Nat → Bool} {held : Bool} {n : Nat} {cs : List Value} {x : DataW H × List MemPlace},
    DataW.trod enc Tryz.prog w base sp held n t cs = some x → ∃ y, E.K (fun _ => True) w y cs
theorem list_of {β : Type} {Q : Nat → β → Prop} : ∀ n : Nat, (∀ i, i < n → ∃ y, Q i y) → ∃ ys : List β, ys.length = n ∧ ∀ i y, ys[i]? = some y → Q i y
  | 0, _ => ⟨[], rfl, fun i y h => by simp at h⟩
  | n + 1, h => by
    obtain ⟨ys, h1, h2⟩ := list_of n fun i hi => h i (by omega)
    obtain ⟨y, hy⟩ := h n (by omega)
    refine ⟨ys ++ [y], by simp [h1], fun i z hz => ?_⟩
    by_cases hi : i < ys.length
    · rw [List.getElem?_append_left hi] at hz; exact h2 i z hz
    · rw [List.getElem?_append_right (by omega)] at hz
      by_cases h3 : i - ys.length = 0
      · rw [h3] at hz
        simp at hz
        subst hz
        rw [show i = n by omega]; exact hy
      · rw [List.getElem?_eq_none (by simp; omega)] at hz; cases hz
theorem lf_int {t : TypeId} (ht : Tryz.prog.underlying t = some (.int .i64)) (hc : Tryz.prog.cellsOf t = 1) : Lf elInt t :=
  ⟨hc, fun h => by obtain ⟨n, rfl, _⟩ := DataW.trod_int ht h; exact ⟨n, rfl⟩⟩
theorem lf_str {t : TypeId} (ht : Tryz.prog.underlying t = some .string) (hc : Tryz.prog.cellsOf t = 1) : Lf elStr t :=
  ⟨hc, fun h => by obtain ⟨s, rfl, _⟩ := DataW.trod_string ht h; exact ⟨s, rfl⟩⟩
theorem lf_sl {E : El α} {t e : TypeId} (ht : Tryz.prog.underlying t = some (.slice e)) (hc : Tryz.prog.cellsOf t = 1) (hz : 0 < E.sz) (hE : Lf E e) : Lf (El.sl E) t := by
  refine ⟨hc, fun {H enc w base sp held n cs x} h => ?_⟩
  rcases open_slice ht h with ⟨rfl, _⟩ | ⟨a, len, cap, m, n, D, Pl, rfl, _, hl, hm, hmm, _, hx⟩
  · exact ⟨[], none, 0, rfl, Nat.le_refl _, by simp, fun h => absurd h (by simp), fun i y hy => by simp at hy⟩
  have hlm : len ≤ m := by rw [hmm]; split <;> omega
  obtain ⟨ys, h1, h2⟩ := list_of (Q := fun i y => ∃ cs, E.K (fun _ => True) w y cs ∧ ∀ j u, cs[j]? = some u → w.cell? (a.add (i * E.sz + j)) = some u) len fun i hi => by
    obtain ⟨cs', h3, h4⟩ := hx i (by omega)
    obtain ⟨y, hy⟩ := hE.2 h4
    obtain ⟨_, h6, h7⟩ := World.cells?_some h3
    rw [hE.1] at h6 h7
    refine ⟨y, cs', hy, fun j u hu => ?_⟩
    have hj := (List.getElem?_eq_some_iff.1 hu).1
    have h8 := h7 j (by omega)
    rw [Addr.add_add, hu] at h8
    exact h8
  subst h1
  refine ⟨ys, some a, cap, rfl, hl, by simp only [maxLen] at hm; omega, fun hn => ⟨a, rfl, ?_, trivial⟩, fun i y hy => ?_⟩
  · obtain ⟨cs, h3, h4⟩ := h2 0 _ (List.getElem?_eq_getElem hn)
    have h5 := E.len h3
    have h6 := h4 0 _ (List.getElem?_eq_getElem (by omega))
    have h7 := World.block_lt_of_cell? _ _ h6
    rwa [add_block] at h7
  · obtain ⟨cs, h3, h4⟩ := h2 i y hy
    exact ⟨a, cs, rfl, h3, h4⟩
theorem take_one {cs : List Value} {k : Nat} (h : k < cs.length) : (cs.drop k).take 1 = [cs[k]] := by
  rw [List.drop_eq_getElem_cons h]; rfl
theorem trod_f {H : Type} {enc : TypeId × Value → H} {w : World} {base : Nat} {sp : Nat → Bool} {held : Bool} {n : Nat} {t : TypeId} {fs : Array Field} {cs : List Value} {x : DataW H × List MemPlace}
    (ht : Tryz.prog.underlying t = some (.struct fs)) (h : DataW.trod enc Tryz.prog w base sp held n t cs = some x) :
    cs.length = Tryz.prog.cellsOf t ∧ ∃ m, ∀ (i : Nat) (f : Field), fs[i]? = some f → ∃ y, DataW.trod enc Tryz.prog w base sp held m f.type ((cs.drop f.offset).take (Tryz.prog.cellsOf f.type)) = some y := by
  obtain ⟨xs, m, _, _, hl, hn, hf⟩ := DataW.trod_struct ht h
  refine ⟨hl, m, fun i f hi => ?_⟩
  have h1 := hf i f hi
  have h2 : i < xs.length := by rw [hn]; exact (Array.getElem?_eq_some_iff.1 hi).1
  rw [List.getElem?_eq_getElem h2] at h1
  exact ⟨_, h1⟩
/-- The fields of a struct, one cell each. -/
noncomputable def fieldsB (t : TypeId) (l : List (Nat × Nat)) : Bool :=
  match Tryz.prog.underlying t with
  | some (.struct fs) => Tryz.prog.cellsOf t == l.length && (fs.toList.map (fun f => (f.type, f.offset)) == l && fs.toList.all fun f => Tryz.prog.cellsOf f.type == 1)
  | _ => false
def FieldsAre (t : TypeId) (l : List (Nat × Nat)) : Prop := ∃ fs, Tryz.prog.underlying t = some (.struct fs) ∧ Tryz.prog.cellsOf t = l.length ∧ fs.toList.map (fun f => (f.type, f.offset)) = l ∧ (fs.toList.all fun f => Tryz.prog.cellsOf f.type == 1) = true
theorem fieldsAre {t : TypeId} {l : List (Nat × Nat)} (h : fieldsB t l = true) : FieldsAre t l := by
  unfold fieldsB at h
  split at h
  · rename_i fs he
    simp only [Bool.and_eq_true, beq_iff_eq] at h
    exact ⟨fs, he, h.1, h.2.1, h.2.2⟩
  · cases h
theorem fields_at {t : TypeId} {l : List (Nat × Nat)} (hF : FieldsAre t l) {H : Type} {enc : TypeId × Value → H} {w : World} {base : Nat} {sp : Nat → Bool} {held : Bool} {n : Nat} {cs : List Value} {x : DataW H × List MemPlace}
    (h : DataW.trod enc Tryz.prog w base sp held n t cs = some x) : cs.length = l.length ∧ ∃ m, ∀ (i u k : Nat) (v : Value), l[i]? = some (u, k) → cs[k]? = some v → ∃ y, DataW.trod enc Tryz.prog w base sp held m u [v] = some y := by
  obtain ⟨fs, h1, h2, h3, h4⟩ := hF
  obtain ⟨h5, m, h6⟩ := trod_f h1 h
  refine ⟨h5.trans h2, m, fun i u k v hi hk => ?_⟩
  rw [← h3, List.getElem?_map] at hi
  cases h7 : fs.toList[i]? with
  | none => rw [h7] at hi; simp at hi
  | some f =>
    rw [h7] at hi
    simp at hi
    obtain ⟨h8, h9⟩ := hi
    obtain ⟨y, hy⟩ := h6 i f (by simpa using h7)
    have h10 := List.all_eq_true.1 h4 f (List.mem_of_getElem? h7)
    simp at h10
    have hlt := (List.getElem?_eq_some_iff.1 hk).1
    rw [h10, h9, take_one hlt, h8] at hy
    rw [(List.getElem?_eq_some_iff.1 hk).2] at hy
    exact ⟨y, hy⟩
theorem list2 {β : Type} {l : List β} (h : l.length = 2) : ∃ a b, l = [a, b] := by match l, h with | [a, b], _ => exact ⟨a, b, rfl⟩
theorem list3 {β : Type} {l : List β} (h : l.length = 3) : ∃ a b c, l = [a, b, c] := by match l, h with | [a, b, c], _ => exact ⟨a, b, c, rfl⟩

theorem fKn : FieldsAre 180 [(9, 0), (3, 1)] := fieldsAre (by kernel_rfl)
theorem fBr : FieldsAre 66 [(9, 0), (9, 1), (3, 2)] := fieldsAre (by kernel_rfl)
theorem fEv : FieldsAre 76 [(5, 0), (9, 1)] := fieldsAre (by kernel_rfl)
theorem fFx : FieldsAre 80 [(3, 0), (3, 1), (78, 2)] := fieldsAre (by kernel_rfl)
theorem fLg : FieldsAre 26 [(22, 0), (23, 1), (24, 2)] := fieldsAre (by kernel_rfl)
theorem uInt : Tryz.prog.underlying 3 = some (.int .i64) := by kernel_rfl
theorem uU8 : Tryz.prog.underlying 5 = some (.int .u8) := by kernel_rfl
theorem uStr : Tryz.prog.underlying 9 = some .string := by kernel_rfl
theorem lf_kn : Lf elKn 180 := ⟨by kernel_rfl, fun h => by
  obtain ⟨hl, m, hf⟩ := fields_at fKn h
  obtain ⟨v0, v1, rfl⟩ := list2 hl
  obtain ⟨y0, h0⟩ := hf 0 _ _ _ rfl rfl
  obtain ⟨y1, h1⟩ := hf 1 _ _ _ rfl rfl
  obtain ⟨s0, e0, _⟩ := DataW.trod_string uStr h0
  obtain ⟨s1, e1, _⟩ := DataW.trod_int uInt h1
  cases e0; cases e1
  exact ⟨⟨s0, s1⟩, rfl⟩⟩
theorem lf_br : Lf elBr 66 := ⟨by kernel_rfl, fun h => by
  obtain ⟨hl, m, hf⟩ := fields_at fBr h
  obtain ⟨v0, v1, v2, rfl⟩ := list3 hl
  obtain ⟨y0, h0⟩ := hf 0 _ _ _ rfl rfl
  obtain ⟨y1, h1⟩ := hf 1 _ _ _ rfl rfl
  obtain ⟨y2, h2⟩ := hf 2 _ _ _ rfl rfl
  obtain ⟨s0, e0, _⟩ := DataW.trod_string uStr h0
  obtain ⟨s1, e1, _⟩ := DataW.trod_string uStr h1
  obtain ⟨s2, e2, _⟩ := DataW.trod_int uInt h2
  cases e0; cases e1; cases e2
  exact ⟨⟨s0, s1, s2⟩, rfl⟩⟩
theorem lf_ev : Lf elEv 76 := ⟨by kernel_rfl, fun h => by
  obtain ⟨hl, m, hf⟩ := fields_at fEv h
  obtain ⟨v0, v1, rfl⟩ := list2 hl
  obtain ⟨y0, h0⟩ := hf 0 _ _ _ rfl rfl
  obtain ⟨y1, h1⟩ := hf 1 _ _ _ rfl rfl
  obtain ⟨s0, e0, _⟩ := DataW.trod_int uU8 h0
  obtain ⟨s1, e1, _⟩ := DataW.trod_string uStr h1
  cases e0; cases e1
  exact ⟨⟨s0, s1⟩, rfl⟩⟩
theorem uStrs : Tryz.prog.underlying 78 = some (.slice 9) := by kernel_rfl
theorem lf_strs : Lf (El.sl elStr) 78 := lf_sl uStrs (by kernel_rfl) (by decide) (lf_str uStr (by kernel_rfl))
theorem lf_fx : Lf elFx 80 := ⟨by kernel_rfl, fun h => by
  obtain ⟨hl, m, hf⟩ := fields_at fFx h
  obtain ⟨v0, v1, v2, rfl⟩ := list3 hl
  obtain ⟨y0, h0⟩ := hf 0 _ _ _ rfl rfl
  obtain ⟨y1, h1⟩ := hf 1 _ _ _ rfl rfl
  obtain ⟨y2, h2⟩ := hf 2 _ _ _ rfl rfl
  obtain ⟨s0, e0, _⟩ := DataW.trod_int uInt h0
  obtain ⟨s1, e1, _⟩ := DataW.trod_int uInt h1
  obtain ⟨s2, e2⟩ := lf_strs.2 h2
  cases e0; cases e1
  exact ⟨⟨s0, s1, s2⟩, v2, rfl, e2⟩⟩
theorem lf_fxs : Lf (El.sl elFx) 27 := lf_sl (e := 80) (by kernel_rfl) (by kernel_rfl) (by decide) lf_fx
theorem lf_kns : Lf (El.sl elKn) 22 := lf_sl (e := 180) (by kernel_rfl) (by kernel_rfl) (by decide) lf_kn
theorem lf_brs : Lf (El.sl elBr) 23 := lf_sl (e := 66) (by kernel_rfl) (by kernel_rfl) (by decide) lf_br
theorem lf_evs : Lf (El.sl elEv) 72 := lf_sl (e := 76) (by kernel_rfl) (by kernel_rfl) (by decide) lf_ev
theorem lf_evss : Lf (El.sl (El.sl elEv)) 24 := lf_sl (e := 72) (by kernel_rfl) (by kernel_rfl) (by decide) lf_evs
section
variable {H : Type} {enc : TypeId × Value → H} {w : World} {base b0 : Nat} {sp : Nat → Bool} {held : Bool} {v : Value} {d : DataW H} {p : List MemPlace} {r : Reach}
set_option maxRecDepth 100000 in
/-- A slice that is an argument. -/
theorem lift_sl {E : El α} {t e : TypeId} (hE : Lf (El.sl E) t) (ht : Tryz.prog.underlying t = some (.slice e)) (hv : Value.okWide Tryz.prog w r b0 t v) (h : DataW.Trod enc Tryz.prog w base sp held t v d p) : ∃ xs, Sl E w v xs := by
  obtain ⟨A, n, c, rfl⟩ := okWide_slice ht hv
  obtain ⟨f, hf⟩ := h
  obtain ⟨xs, hx⟩ := hE.2 hf
  exact ⟨xs, k_sl hx⟩
set_option maxRecDepth 100000 in
/-- A ledger that is an argument. -/
theorem lift_lg (hv : Value.okWide Tryz.prog w r b0 26 v) (h : DataW.Trod enc Tryz.prog w base sp held 26 v d p) : ∃ g, LgV w v g := by
  obtain ⟨fs, hs, hc, _⟩ := fLg
  obtain ⟨cs, rfl, hsz⟩ := okWide_struct hs hv
  obtain ⟨f, hf⟩ := h
  obtain ⟨hl, m, hx⟩ := fields_at fLg hf
  obtain ⟨v0, v1, v2, hcs⟩ := list3 (l := cs.toList) (by simpa using hsz.trans hc)
  obtain rfl : cs = #[v0, v1, v2] := by rw [← Array.toArray_toList (xs := cs), hcs]
  obtain ⟨y0, h0⟩ := hx 0 _ _ v0 rfl rfl
  obtain ⟨y1, h1⟩ := hx 1 _ _ v1 rfl rfl
  obtain ⟨y2, h2⟩ := hx 2 _ _ v2 rfl rfl
  obtain ⟨s0, e0⟩ := lf_kns.2 h0
  obtain ⟨s1, e1⟩ := lf_brs.2 h1
  obtain ⟨s2, e2⟩ := lf_evss.2 h2
  obtain ⟨A0, c0, rfl, q0, r0⟩ := k_sl e0
  obtain ⟨A1, c1, rfl, q1, r1⟩ := k_sl e1
  obtain ⟨A2, c2, rfl, q2, r2⟩ := k_sl e2
  exact ⟨⟨s0, s1, s2⟩, A0, c0, A1, c1, A2, c2, rfl, q0, q1, q2, r0, r1, r2⟩
end
end Go.Proofs.YtgibdafkidkahaaGreatDoor
