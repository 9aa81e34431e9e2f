/- Derived: rows of the call's own that are sorted. -/
import Derived.Test.YtgibdafkidkahaaGreatDoorOwn
import Derived.Shelf.SlSortCmp.WholeK
set_option linter.unusedVariables false
set_option linter.unusedSimpArgs false
namespace Go.Proofs.YtgibdafkidkahaaGreatDoor
open Go.RowKit Go.Sort

section
variable {α β : Type} [Inhabited α] {E : El β} {f : α → β} {enc : β → List Value}
theorem all2_enc (hK : ∀ ok w x cs, E.K ok w x cs → cs = enc x) {ok : Nat → Prop} {w : World} {xs : List β} {css : List (List Value)} (h : All2 (E.K ok w) xs css) : css = xs.map enc := by
  induction h with
  | nil => rfl
  | cons h1 _ ih => rw [List.map_cons, ← ih, hK _ _ _ _ h1]
theorem flat_at (hl : ∀ x, (enc x).length = E.sz) {d : Array α} {j : Nat} (hj : j < d.size * E.sz) : ((d.toList.map f).map enc).flatten[j]? = some ((enc (f d[j / E.sz]!))[j % E.sz]!) := by
  have hk : 0 < E.sz := by rcases Nat.eq_zero_or_pos E.sz with h | h; · rw [h] at hj; simp at hj
                           · exact h
  have hi : j / E.sz < d.size := (Nat.div_lt_iff_lt_mul hk).2 hj
  have hr : j % E.sz < E.sz := Nat.mod_lt _ hk
  have h1 : ((d.toList.map f).map enc)[j / E.sz]? = some (enc (f d[j / E.sz]!)) := by
    rw [List.getElem?_map, List.getElem?_map, getElem!_pos d _ hi]
    simp [hi]
  have h2 : (enc (f d[j / E.sz]!))[j % E.sz]? = some ((enc (f d[j / E.sz]!))[j % E.sz]!) := by
    have hr' : j % E.sz < (enc (f d[j / E.sz]!)).length := by rw [hl]; exact hr
    rw [getElem!_pos (enc (f d[j / E.sz]!)) (j % E.sz) hr']
    exact List.getElem?_eq_getElem hr'
  have := flatten_at (sz := E.sz) (css := (d.toList.map f).map enc) (fun cs hcs => by obtain ⟨x, _, rfl⟩ := List.mem_map.1 hcs; exact hl x) h1 h2
  rw [show j / E.sz * E.sz + j % E.sz = j from by rw [Nat.mul_comm]; exact Nat.div_add_mod j E.sz] at this
  exact this
/-- A row of the call's own, as the sort wants it. -/
theorem own_holds (hK : ∀ ok w x cs, E.K ok w x cs → cs = enc x) (hl : ∀ x, (enc x).length = E.sz) {e B g n cap : Nat} {w : World} {d : Array α} (h : Own E e B w (.slice (some ⟨g, 0, none⟩) n cap) (d.toList.map f)) :
    B ≤ g ∧ g < w.heap.size ∧ (∃ cur, w.heap[g]? = some (.cells cur e (0, 0)) ∧ cur.size = cap * E.sz ∧ d.size ≤ cap ∧ cap ≤ 9223372036854775807) ∧ HoldsK (fun x => enc (f x)) E.sz w g 0 d := by
  obtain ⟨css, h1, h2⟩ := h
  have hcs := all2_enc hK h2
  rw [List.length_map, Array.length_toList] at h1
  rcases h1.2 with ⟨h3, _⟩ | ⟨g', cap', cur, hv, hB, hb, hn, hm, hs, ht⟩
  · cases h3
  · cases hv
    refine ⟨hB, blk_lt hb, ⟨cur, hb, hs, hn, by simpa only [maxLen] using hm⟩, fun j hj => ?_⟩
    rw [size_flatK] at hj
    have hf := flat_at (f := f) hl hj
    rw [← hcs, ← ht, List.getElem?_take] at hf
    rw [if_pos hj] at hf
    refine ⟨?_, blk_frozen hb _⟩
    rw [blk_cell hb, Nat.zero_add]
    rw [get_flatK _ _ _ _ hj]
    simpa using hf
theorem sortWorldK_block (ec : α → List Value) (k : Nat) (w : World) (g m : Nat) (d : Array α) (os : Array Obj) {cur : Array Value} {e : TypeId} (hb : w.heap[g]? = some (.cells cur e (0, 0))) :
    (∃ cur', (sortWorldK ec k w g 0 m d os).heap[g]? = some (.cells cur' e (0, 0)) ∧ cur'.size = cur.size) ∧ (∀ i, i < w.heap.size → i ≠ g → (sortWorldK ec k w g 0 m d os).heap[i]? = w.heap[i]?) ∧
    (sortWorldK ec k w g 0 m d os).os = w.os ∧ (sortWorldK ec k w g 0 m d os).tape = w.tape ∧ (sortWorldK ec k w g 0 m d os).output = w.output ∧ w.heap.size ≤ (sortWorldK ec k w g 0 m d os).heap.size := by
  have hsz : (putRowK ec k (Sort.ahead w m) g 0 d).heap.size = w.heap.size := by simp [putRowK, Sort.putRow, Sort.mapBlock, Sort.ahead]
  refine ⟨⟨Sort.putCells id 0 (flatK ec k d) cur, ?_, by simp [Sort.putCells]⟩, fun i hi hne => ?_, rfl, rfl, rfl, by unfold sortWorldK; rw [Sort.size_grow, hsz]; exact Nat.le_add_right _ _⟩
  · unfold sortWorldK
    rw [Sort.heap_grow_old _ _ (by rw [hsz]; exact blk_lt hb)]
    simp [putRowK, Sort.putRow, Sort.mapBlock, Sort.ahead, Array.getElem?_modify, hb, Sort.onCells]
  · unfold sortWorldK
    rw [Sort.heap_grow_old _ _ (by rw [hsz]; exact hi)]
    simp [putRowK, Sort.putRow, Sort.mapBlock, Sort.ahead, Array.getElem?_modify, Ne.symm hne]
theorem sort_ext (ec : α → List Value) (k : Nat) {w0 w : World} {g m : Nat} (d : Array α) (os : Array Obj) {cur : Array Value} {e : TypeId} (hb : w.heap[g]? = some (.cells cur e (0, 0))) (hE : Ext w0 w) (hBw : w0.heap.size ≤ g) : Ext w0 (sortWorldK ec k w g 0 m d os) := by
  obtain ⟨_, hk, e1, e2, e3, e4⟩ := sortWorldK_block ec k w g m d os hb
  exact ⟨e1.trans hE.os, e2.trans hE.tape, e3.trans hE.output, Nat.le_trans hE.size e4, fun i hi => (hk i (Nat.lt_of_lt_of_le hi hE.size) (by omega)).trans (hE.block i hi)⟩
theorem all2_map {R : β → List Value → Prop} (h : ∀ x, R x (enc x)) : ∀ xs : List β, All2 R xs (xs.map enc)
  | [] => .nil
  | x :: xs => .cons (h x) (all2_map h xs)
/-- .. and behind it. -/
theorem own_sorted (hK' : ∀ ok w x, E.K ok w x (enc x)) (hl : ∀ x, (enc x).length = E.sz) {e B g cap m : Nat} {w w0 : World} {d d' : Array α} {os : Array Obj} {cur : Array Value} (hB : B ≤ g) (hb : w.heap[g]? = some (.cells cur e (0, 0))) (hs : cur.size = cap * E.sz) (hc : d.size ≤ cap) (hm : cap ≤ 9223372036854775807)
    (hH : HoldsK (fun x => enc (f x)) E.sz w g 0 d) (hd : d'.size = d.size) (hE : Ext w0 w) (hBw : w0.heap.size ≤ g) :
    Own E e B (sortWorldK (fun x => enc (f x)) E.sz w g 0 m d' os) (.slice (some ⟨g, 0, none⟩) d'.size cap) (d'.toList.map f) ∧ Ext w0 (sortWorldK (fun x => enc (f x)) E.sz w g 0 m d' os) := by
  obtain ⟨⟨cur', hb', hs'⟩, hk, e1, e2, e3, e4⟩ := sortWorldK_block (fun x => enc (f x)) E.sz w g m d' os hb
  have hH' := holdsK_sortWorldK_c (fun x => enc (f x)) E.sz w g 0 d d' m os hH (blk_lt hb) hd
  generalize sortWorldK (fun x => enc (f x)) E.sz w g 0 m d' os = w' at *
  refine ⟨?_, ⟨e1.trans hE.os, e2.trans hE.tape, e3.trans hE.output, Nat.le_trans hE.size e4, fun i hi => (hk i (Nat.lt_of_lt_of_le hi hE.size) (by omega)).trans (hE.block i hi)⟩⟩
  have hlen : (d'.toList.map f).length = d'.size := by simp
  have := own_blk (E := E) (e := e) (B := B) (g := g) (cap := cap) (w := w') (cur := cur') (xs := d'.toList.map f) (css := (d'.toList.map f).map enc) hb' hB (by rw [hlen]; omega) hm (by rw [hs', hs]) ?_ (all2_map (fun x => hK' _ _ x) _)
  · rw [hlen] at this
    exact this
  · apply List.ext_getElem?
    intro j
    rw [hlen, List.getElem?_take]
    have hfl : ((d'.toList.map f).map enc).flatten.length = d'.size * E.sz := by
      have := flat_len (E := E) (ok := fun _ => True) (w := w') (all2_map (enc := enc) (fun x => hK' _ _ x) (d'.toList.map f))
      rw [this, hlen]
    by_cases hj : j < d'.size * E.sz
    · rw [if_pos hj, flat_at hl hj]
      have := (hH' j (by rw [size_flatK]; exact hj)).1
      rw [blk_cell hb', Nat.zero_add, get_flatK _ _ _ _ hj] at this
      simpa using this
    · rw [if_neg hj, List.getElem?_eq_none (by omega)]
end
theorem permIn_all {α : Type} [Inhabited α] {d d' : Array α} (h : Sort.PermIn 0 d.size d d') : d'.size = d.size ∧ d'.toList.Perm d.toList := by
  refine ⟨h.1, ?_⟩
  have h2 := h.2.2
  have e1 : d.extract 0 d.size = d := by simp
  have e2 : d'.extract 0 d.size = d' := by rw [← h.1]; simp
  rwa [e1, e2] at h2
theorem sortedIn_all {α : Type} [Inhabited α] {lt : α → α → Bool} {d : Array α} {n : Nat} (hn : n = d.size) (h : Sort.SortedIn lt 0 n d) : d.toList.Pairwise fun x y => lt y x = false := by
  subst hn
  rw [List.pairwise_iff_getElem]
  intro i j hi hj hij
  have := h i j (Nat.zero_le _) hij (by simpa using hj)
  rw [getElem!_pos d j (by simpa using hj), getElem!_pos d i (by simpa using hi)] at this
  simpa using this
end Go.Proofs.YtgibdafkidkahaaGreatDoor
