/- Derived: maps that a call makes, told as lists of pairs. -/
import Derived.Test.YtgibdafkidkahaaGreatDoorOwn
set_option linter.unusedVariables false
set_option linter.unusedSimpArgs false
set_option linter.unusedSectionVars false
namespace Go.Proofs.YtgibdafkidkahaaGreatDoor
open Go.RowKit

section
variable {κ β : Type} [DecidableEq κ]
/-- What a map has at a key. -/
def mget (m : List (κ × β)) (k : κ) : Option β := (m.find? fun p => decide (p.1 = k)).map (·.2)
/-- A map behind a store. -/
def mset : List (κ × β) → κ → β → List (κ × β)
  | [], k, v => [(k, v)]
  | p :: m, k, v => if p.1 = k then (k, v) :: m else p :: mset m k v
theorem mget_cons (p : κ × β) (m : List (κ × β)) (k : κ) : mget (p :: m) k = if p.1 = k then some p.2 else mget m k := by
  unfold mget
  by_cases h : p.1 = k <;> simp [h]
theorem mget_set_same (m : List (κ × β)) (k : κ) (v : β) : mget (mset m k v) k = some v := by
  induction m with
  | nil => simp [mset, mget]
  | cons p m ih =>
    unfold mset
    split
    · rw [mget_cons, if_pos rfl]
    · rename_i h; rw [mget_cons, if_neg h, ih]
theorem mget_set_other (m : List (κ × β)) {k j : κ} (v : β) (h : j ≠ k) : mget (mset m k v) j = mget m j := by
  induction m with
  | nil => rw [mset, mget_cons, if_neg (Ne.symm h)]
  | cons p m ih =>
    unfold mset
    split
    · rename_i hp; rw [mget_cons, mget_cons, if_neg (Ne.symm h), if_neg (by rw [hp]; exact Ne.symm h)]
    · rw [mget_cons, mget_cons, ih]
theorem mget_set (m : List (κ × β)) (k j : κ) (v : β) : mget (mset m k v) j = if j = k then some v else mget m j := by
  split
  · rename_i h; rw [h, mget_set_same]
  · rename_i h; exact mget_set_other m v h
theorem mset_length (m : List (κ × β)) (k : κ) (v : β) : (mset m k v).length = if (mget m k).isSome then m.length else m.length + 1 := by
  induction m with
  | nil => simp [mset, mget]
  | cons p m ih =>
    unfold mset
    split
    · rename_i h; rw [mget_cons, if_pos h]; simp
    · rename_i h
      rw [List.length_cons, ih, mget_cons, if_neg h]
      split <;> rfl
theorem mget_nil (k : κ) : mget ([] : List (κ × β)) k = none := rfl
/-- The place of a key, and what lies there. -/
theorem mget_place (m : List (κ × β)) (k : κ) : (∃ i p, (m.map (·.1)).findIdx? (fun j => decide (j = k)) = some i ∧ m[i]? = some p ∧ p.1 = k ∧ mget m k = some p.2 ∧ ∀ v, mset m k v = m.set i (k, v)) ∨
    ((m.map (·.1)).findIdx? (fun j => decide (j = k)) = none ∧ mget m k = none ∧ ∀ v, mset m k v = m ++ [(k, v)]) := by
  induction m with
  | nil => right; exact ⟨rfl, rfl, fun v => rfl⟩
  | cons p m ih =>
    by_cases h : p.1 = k
    · left
      exact ⟨0, p, by rw [List.map_cons, List.findIdx?_cons, decide_eq_true h]; rfl, rfl, h, by rw [mget_cons, if_pos h], fun v => by unfold mset; rw [if_pos h]; rfl⟩
    · rcases ih with ⟨i, q, h1, h2, h3, h4, h5⟩ | ⟨h1, h2, h3⟩
      · left
        exact ⟨i + 1, q, by rw [List.map_cons, List.findIdx?_cons, decide_eq_false h, h1]; rfl, by simpa using h2, h3, by rw [mget_cons, if_neg h, h4], fun v => by unfold mset; rw [if_neg h, h5]; rfl⟩
      · right
        exact ⟨by rw [List.map_cons, List.findIdx?_cons, decide_eq_false h, h1]; rfl, by rw [mget_cons, if_neg h, h2], fun v => by unfold mset; rw [if_neg h, h3]; rfl⟩

/-- Block b is a map that holds these pairs. -/
def IsMap (ke : κ → Value) (ve : β → Value) (w : World) (b : Nat) (m : List (κ × β)) : Prop :=
  ∃ es clock, w.heap[b]? = some (.map es clock) ∧ es.toList.map (fun e => (e.key, e.val)) = m.map fun p => (ke p.1, ve p.2)
/-- A key's type: its values may be keys, and are told apart. -/
structure KeyOk (P : Program) (kt : TypeId) (ke : κ → Value) : Prop where
  check : ∀ k empty w, (Instr.checkKey empty 10000 kt (ke k)).run P w = .ok () w
  same : ∀ k, Instr.sameBits 10000 (ke k) (ke k) = true
  find : ∀ k (es : List MapEntry) (ks : List κ) (w : World), es.map (·.key) = ks.map ke →
    (Instr.findKey kt (ke k) es).run P w = .ok (match ks.findIdx? (fun j => decide (j = k)) with | some i => es[i]?.map fun e => (i, e.val) | none => none) w
end
section
variable {κ β : Type} [DecidableEq κ] {ke : κ → Value} {ve : β → Value} {P : Program} {w : World} {b : Nat} {m : List (κ × β)} {t kt et : TypeId}
theorem IsMap.ext {w' : World} (h : IsMap ke ve w b m) (he : Ext w w') : IsMap ke ve w' b m := by
  obtain ⟨es, clock, h1, h2⟩ := h
  exact ⟨es, clock, he.blk h1, h2⟩
theorem IsMap.turned {w' : World} {g : Nat} (h : IsMap ke ve w b m) (he : Turned g w w') (hne : b ≠ g) : IsMap ke ve w' b m := by
  obtain ⟨es, clock, h1, h2⟩ := h
  exact ⟨es, clock, (he.block b hne).trans h1, h2⟩
theorem IsMap.lt (h : IsMap ke ve w b m) : b < w.heap.size := by
  obtain ⟨es, clock, h1, h2⟩ := h
  exact blk_lt h1
theorem isMap_new (w : World) : IsMap ke ve (w.alloc (.map #[] 0)) w.heap.size ([] : List (κ × β)) := ⟨#[], 0, heap_alloc_new w _, rfl⟩
theorem map_parts {es : List MapEntry} (h : es.map (fun e : MapEntry => (e.key, e.val)) = m.map fun p : κ × β => (ke p.1, ve p.2)) : es.map (·.key) = (m.map (·.1)).map ke ∧ ∀ (i : Nat) (p : κ × β), m[i]? = some p → ∃ e : MapEntry, es[i]? = some e ∧ e.key = ke p.1 ∧ e.val = ve p.2 := by
  constructor
  · have := congrArg (List.map Prod.fst) h
    simpa [Function.comp_def] using this
  · intro i p hp
    have := congrArg (fun l => l[i]?) h
    simp only [List.getElem?_map, hp, Option.map_some] at this
    cases he : es[i]? with
    | none => rw [he] at this; simp at this
    | some e => rw [he] at this; simp at this; exact ⟨e, rfl, this.1, this.2⟩
theorem run_find (K : KeyOk P kt ke) {es : Array MapEntry} (h : es.toList.map (fun e => (e.key, e.val)) = m.map fun p => (ke p.1, ve p.2)) (k : κ) (w : World) :
    (∃ i p, m[i]? = some p ∧ p.1 = k ∧ (Instr.findKey kt (ke k) es.toList).run P w = .ok (some (i, ve p.2)) w ∧ mget m k = some p.2 ∧ (∀ v, mset m k v = m.set i (k, v))) ∨
    ((Instr.findKey kt (ke k) es.toList).run P w = .ok none w ∧ mget m k = none ∧ ∀ v, mset m k v = m ++ [(k, v)]) := by
  obtain ⟨h1, h2⟩ := map_parts h
  have hf := K.find k es.toList (m.map (·.1)) w h1
  rcases mget_place m k with ⟨i, p, h3, h4, h5, h6, h7⟩ | ⟨h3, h4, h5⟩
  · left
    obtain ⟨e, h8, h9, h10⟩ := h2 i p h4
    refine ⟨i, p, h4, h5, ?_, h6, h7⟩
    rw [hf, h3]
    simp [h8, h10]
  · right
    exact ⟨by rw [hf, h3], h4, h5⟩
/-- m[k]. -/
theorem run_look (K : KeyOk P kt ke) (ht : P.underlying t = some (.map kt et)) {z : β} (hz : ∀ w, (zeroValue et).run P w = .ok (ve z) w) (h : IsMap ke ve w b m) (k : κ) :
    (Instr.lookup t (.map (some b)) (ke k) false).run P w = .ok (ve ((mget m k).getD z)) w ∧ (Instr.lookup t (.map (some b)) (ke k) true).run P w = .ok (.tuple #[ve ((mget m k).getD z), .bool (mget m k).isSome]) w := by
  obtain ⟨es, clock, h1, h2⟩ := h
  have hu : ∀ w, (underlying t).run P w = .ok (.map kt et) w := fun w => by simp [underlying, program, Sem.run, ht]
  rcases run_find K h2 k w with ⟨i, p, _, _, h3, h4, _⟩ | ⟨h3, h4, _⟩ <;>
    simp [Instr.lookup, Sem.run_bind, hu, getObj, Sem.run, h1, K.check, h3, h4, hz, Sem.run_pure]
/-- m[k] = v. -/
theorem run_put (K : KeyOk P kt ke) (ht : P.underlying t = some (.map kt et)) (h : IsMap ke ve w b m) (k : κ) (v : β) :
    ∃ w', (Instr.mapUpdate t (.map (some b)) (ke k) (ve v)).run P w = .ok () w' ∧ IsMap ke ve w' b (mset m k v) ∧ Turned b w w' := by
  obtain ⟨es, clock, h1, h2⟩ := h
  have hu : ∀ w, (underlying t).run P w = .ok (.map kt et) w := fun w => by simp [underlying, program, Sem.run, ht]
  have hb := blk_lt h1
  have hturn : ∀ o, Turned b w { w with heap := w.heap.setIfInBounds b o } := fun o => ⟨rfl, rfl, rfl, by simp, fun k hk => by simp [Array.getElem?_setIfInBounds, Ne.symm hk]⟩
  have hset : ∀ o : Obj, ({ w with heap := w.heap.setIfInBounds b o } : World).heap[b]? = some o := fun o => by simp [Array.getElem?_setIfInBounds, hb]
  rcases run_find K h2 k w with ⟨i, p, hp, hk, h3, h4, h5⟩ | ⟨h3, h4, h5⟩
  · obtain ⟨_, h6⟩ := map_parts h2
    obtain ⟨e, he, he1, he2⟩ := h6 i p hp
    have hei : es[i]? = some e := by simpa using he
    refine ⟨_, ?_, ⟨es.modify i fun e => { e with key := ke k, val := ve v }, clock, hset _, ?_⟩, hturn _⟩
    · simp [Instr.mapUpdate, Sem.run_bind, hu, getObj, setObj, Sem.run, h1, K.check, h3, Instr.keyThatStays, hei, he1, hk, K.same, Sem.run_pure]
    · rw [h5]
      apply List.ext_getElem?
      intro j
      simp only [List.getElem?_map, Array.getElem?_toList, Array.getElem?_modify, List.getElem?_set]
      have h7 := congrArg (fun l => l[j]?) h2
      simp only [List.getElem?_map, Array.getElem?_toList] at h7
      by_cases hij : i = j
      · subst hij
        have hil : i < m.length := (List.getElem?_eq_some_iff.1 hp).1
        simp [hei, hil]
      · simp [hij, h7]
  · refine ⟨_, ?_, ⟨es.push { key := ke k, val := ve v, born := clock }, clock + 1, hset _, ?_⟩, hturn _⟩
    · simp [Instr.mapUpdate, Sem.run_bind, hu, getObj, setObj, Sem.run, h1, K.check, h3, Sem.run_pure]
    · rw [h5]; simp [h2]
/-- len(m). -/
theorem run_mlen (ht : P.underlying t = some (.map kt et)) (h : IsMap ke ve w b m) (ty : TypeId) : (Builtin.len_ #[t] ty #[.map (some b)]).run P w = .ok (.int .i64 m.length) w := by
  obtain ⟨es, clock, h1, h2⟩ := h
  have hu : ∀ w, (underlying t).run P w = .ok (.map kt et) w := fun w => by simp [underlying, program, Sem.run, ht]
  have hl : es.size = m.length := by have := congrArg List.length h2; simpa using this
  have hg : (getObj b).run P w = .ok (.map es clock) w := by simp [getObj, Sem.run, h1]
  simp [Builtin.len_, Sem.run_bind, hu, hg, goInt, hl, Result.andThen]
end

theorem ba_beq (a b : Str) : (a == b) = decide (a = b) := by
  cases a with | mk a => cases b with | mk b =>
  show (a == b) = _
  by_cases h : a = b
  · subst h; simp
  · simp [h]
theorem keyStr {P : Program} {kt : TypeId} (hk : P.underlying kt = some .string) : KeyOk P kt Value.string where
  check := fun k empty w => by
    rw [show 10000 = 9999 + 1 from rfl, Instr.checkKey]
    simp only [Sem.run_bind, underlying, program, Sem.run, hk, Result.andThen]
    rfl
  same := fun k => by simp [Instr.sameBits, ba_beq]
  find := fun k es ks w h => by
    have key : ∀ (es : List MapEntry) (ks : List Str) (i : Nat), es.map (·.key) = ks.map Value.string →
        Instr.findNow .string (.string k) es i = some (match ks.findIdx? (fun j => decide (j = k)) with | some n => es[n]?.map fun e => (i + n, e.val) | none => none) := by
      intro es
      induction es with
      | nil => intro ks i h; cases ks with | nil => rfl | cons _ _ => simp at h
      | cons e es ih =>
        intro ks i h
        cases ks with
        | nil => simp at h
        | cons j ks =>
          simp only [List.map_cons, List.cons.injEq] at h
          rw [Instr.findNow, h.1, Instr.sameNow]
          by_cases hj : j = k
          · subst hj
            simp only [ba_beq, decide_true]
            rw [List.findIdx?_cons, decide_eq_true rfl]
            rfl
          · have hkj : (k == j) = false := by rw [ba_beq]; exact decide_eq_false (Ne.symm hj)
            simp only [hkj]
            rw [ih ks (i + 1) h.2, List.findIdx?_cons]
            simp only [hj, decide_false]
            cases hf : ks.findIdx? (fun j => decide (j = k)) with
            | none => simp
            | some n => simp [Nat.add_assoc, Nat.add_comm 1 n]
    have := key es ks 0 h
    simp only [Nat.zero_add] at this
    simp only [Instr.findKey, Sem.run_bind, underlying, program, Sem.run, hk, Result.andThen, Sem.run_pure, this]
theorem ib_beq (a b : Int) : (a == b) = decide (a = b) := by by_cases h : a = b <;> simp [h]
theorem keyInt {P : Program} {kt : TypeId} (hk : P.underlying kt = some (.int .i64)) : KeyOk P kt (Value.int .i64) where
  check := fun k empty w => by
    rw [show 10000 = 9999 + 1 from rfl, Instr.checkKey]
    simp only [Sem.run_bind, underlying, program, Sem.run, hk, Result.andThen]
    rfl
  same := fun k => by simp [Instr.sameBits, ib_beq]
  find := fun k es ks w h => by
    have key : ∀ (es : List MapEntry) (ks : List Int) (i : Nat), es.map (·.key) = ks.map (Value.int .i64) →
        Instr.findNow (.int .i64) (.int .i64 k) es i = some (match ks.findIdx? (fun j => decide (j = k)) with | some n => es[n]?.map fun e => (i + n, e.val) | none => none) := by
      intro es
      induction es with
      | nil => intro ks i h; cases ks with | nil => rfl | cons _ _ => simp at h
      | cons e es ih =>
        intro ks i h
        cases ks with
        | nil => simp at h
        | cons j ks =>
          simp only [List.map_cons, List.cons.injEq] at h
          rw [Instr.findNow, h.1, Instr.sameNow]
          by_cases hj : j = k
          · subst hj
            simp only [ib_beq, decide_true]
            rw [List.findIdx?_cons, decide_eq_true rfl]
            rfl
          · have hkj : (k == j) = false := by rw [ib_beq]; exact decide_eq_false (Ne.symm hj)
            simp only [hkj]
            rw [ih ks (i + 1) h.2, List.findIdx?_cons]
            simp only [hj, decide_false]
            cases hf : ks.findIdx? (fun j => decide (j = k)) with
            | none => simp
            | some n => simp [Nat.add_assoc, Nat.add_comm 1 n]
    have := key es ks 0 h
    simp only [Nat.zero_add] at this
    simp only [Instr.findKey, Sem.run_bind, underlying, program, Sem.run, hk, Result.andThen, Sem.run_pure, this]
end Go.Proofs.YtgibdafkidkahaaGreatDoor
