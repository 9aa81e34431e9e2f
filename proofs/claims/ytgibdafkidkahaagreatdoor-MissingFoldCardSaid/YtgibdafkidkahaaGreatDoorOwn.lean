/- Derived: rows of the call's own, and appends to them. -/
import Derived.Test.YtgibdafkidkahaaGreatDoorBase
set_option linter.unusedVariables false
set_option linter.unusedSimpArgs false
namespace Go.Proofs.YtgibdafkidkahaaGreatDoor
open Go.RowKit
variable {α : Type}

/-- A row of the call's own: it lies from block B on, in a block of type e, and so do the rows that its elements lead to; these are other ones. -/
def Own (E : El α) (e B : Nat) (w : World) (v : Value) (xs : List α) : Prop :=
  ∃ css : List (List Value), w.ownsRow B e E.sz v xs.length css.flatten ∧ All2 (E.K (fun k => B ≤ k ∧ v.ownBlock ≠ some k) w) xs css
theorem All2.length {β γ : Type} {R : β → γ → Prop} {xs ys} (a : All2 R xs ys) : xs.length = ys.length := by
  induction a with
  | nil => rfl
  | cons _ _ ih => simp [ih]
theorem All2.get {β γ : Type} {R : β → γ → Prop} {xs ys} (a : All2 R xs ys) : ∀ {i : Nat} {x : β}, xs[i]? = some x → ∃ y, ys[i]? = some y ∧ R x y := by
  induction a with
  | nil => intro i x h; simp at h
  | cons h _ ih =>
    intro i x hx
    match i, hx with
    | 0, hx => simp at hx; subst hx; exact ⟨_, rfl, h⟩
    | i + 1, hx => exact ih (by simpa using hx)
theorem Own.nil (E : El α) (e B : Nat) (w : World) : Own E e B w (.slice none 0 0) [] := ⟨[], World.ownsRow_nil _ _ _ _, .nil⟩
theorem grown_ext {w w1 : World} (h : Ext w w1) (row : Option Nat) : w.grownBy w1 row := ⟨h.os, h.tape, h.output, h.size, fun i hi _ => h.block i hi⟩
theorem Own.ext {E : El α} {e B : Nat} {w w' : World} {v : Value} {xs : List α} (h : Own E e B w v xs) (he : Ext w w') : Own E e B w' v xs := by
  obtain ⟨css, h1, h2⟩ := h
  exact ⟨css, h1.kept (grown_ext he none) (by cases v.ownBlock <;> simp), h2.imp fun _ _ hk => E.ext he hk⟩
theorem flatten_at {sz : Nat} : ∀ {css : List (List Value)}, (∀ cs ∈ css, cs.length = sz) → ∀ {i : Nat} {cs : List Value}, css[i]? = some cs → ∀ {j : Nat} {u : Value}, cs[j]? = some u → css.flatten[i * sz + j]? = some u
  | [], _, i, cs, h, _, _, _ => by simp at h
  | c0 :: css, hl, i, cs, h, j, u, hu => by
    have h0 := hl c0 List.mem_cons_self
    match i, h with
    | 0, h =>
      simp at h
      subst h
      have hj := (List.getElem?_eq_some_iff.1 hu).1
      rw [List.flatten_cons, Nat.zero_mul, Nat.zero_add, List.getElem?_append_left hj, hu]
    | i + 1, h =>
      rw [List.flatten_cons, List.getElem?_append_right (by rw [Nat.succ_mul]; omega), show (i + 1) * sz + j - c0.length = i * sz + j by rw [Nat.succ_mul]; omega]
      exact flatten_at (fun cs hcs => hl cs (List.mem_cons_of_mem _ hcs)) (by simpa using h) hu
theorem All2.mem {β γ : Type} {R : β → γ → Prop} {xs ys} (a : All2 R xs ys) : ∀ y ∈ ys, ∃ x, R x y := by
  induction a with
  | nil => intro y hy; simp at hy
  | cons h _ ih =>
    intro y hy
    rcases List.mem_cons.1 hy with rfl | hy
    · exact ⟨_, h⟩
    · exact ih y hy
theorem own_form {w : World} {B e sz n : Nat} {v : Value} {cs : List Value} (h : w.ownsRow B e sz v n cs) : ∃ A c, v = .slice A n c ∧ n ≤ c ∧ n ≤ 9223372036854775807 := by
  rcases h.2 with ⟨rfl, rfl⟩ | ⟨g, cap, cur, rfl, _, _, h1, h2, _⟩
  · exact ⟨none, 0, rfl, Nat.le_refl _, by omega⟩
  · exact ⟨_, cap, rfl, h1, by simp only [maxLen] at h2; omega⟩
/-- What is made reads, and one knows where it lies. -/
theorem Own.k {E : El α} {e B : Nat} {w : World} {v : Value} {xs : List α} (h : Own E e B w v xs) : (El.sl E).K (fun k => B ≤ k) w xs [v] := by
  obtain ⟨css, h1, h2⟩ := h
  obtain ⟨A, c, rfl, hc, hm⟩ := own_form h1
  refine ⟨A, c, rfl, hc, hm, fun hn => ?_, fun i y hy => ?_⟩
  · rcases h1.2 with ⟨_, h0⟩ | ⟨g, cap, cur, hv, hB, hb, _⟩
    · omega
    · cases hv
      exact ⟨_, rfl, blk_lt hb, hB⟩
  · have hn : 0 < xs.length := by have := (List.getElem?_eq_some_iff.1 hy).1; omega
    obtain ⟨g, hg, rfl⟩ : ∃ g, Value.ownBlock (.slice A xs.length c) = some g ∧ A = some ⟨g, 0, none⟩ := by
      rcases h1.2 with ⟨_, h0⟩ | ⟨g, cap, cur, hv, _⟩
      · omega
      · cases hv; exact ⟨g, rfl, rfl⟩
    obtain ⟨cs, hcs, hk⟩ := h2.get hy
    refine ⟨_, cs, rfl, E.mono (fun k hk => hk.1) hk, fun j u hu => ?_⟩
    exact h1.cells hg _ u (flatten_at (fun cs hcs => by obtain ⟨x, hx⟩ := h2.mem cs hcs; exact E.len hx) hcs hu)
theorem k_sl {E : El α} {ok : Nat → Prop} {w : World} {v : Value} {xs : List α} (h : (El.sl E).K ok w xs [v]) : Sl E w v xs := by
  obtain ⟨A, c, h0, hc, hm, _, h2⟩ := h
  cases h0
  exact ⟨A, c, rfl, hc, hm, fun i x hx => by obtain ⟨ad, cs, h3, h4, h5⟩ := h2 i x hx; exact ⟨ad, cs, h3, ⟨ok, h4⟩, h5⟩⟩
theorem Own.sl {E : El α} {e B : Nat} {w : World} {v : Value} {xs : List α} (h : Own E e B w v xs) : Sl E w v xs := k_sl h.k
/-- A slice that a call has made, from block B on. -/
def Fresh (E : El α) (B : Nat) (w : World) (v : Value) (xs : List α) : Prop := (El.sl E).K (fun k => B ≤ k) w xs [v]
theorem Fresh.ext {E : El α} {B : Nat} {w w' : World} {v : Value} {xs : List α} (h : Fresh E B w v xs) (he : Ext w w') : Fresh E B w' v xs := El.ext _ he h
theorem Fresh.sl {E : El α} {B : Nat} {w : World} {v : Value} {xs : List α} (h : Fresh E B w v xs) : Sl E w v xs := k_sl h
theorem Fresh.lower {E : El α} {B B' : Nat} {w : World} {v : Value} {xs : List α} (h : Fresh E B w v xs) (hB : B' ≤ B) : Fresh E B' w v xs := El.mono _ (fun _ hk => Nat.le_trans hB hk) h
theorem Own.fresh {E : El α} {e B B' : Nat} {w : World} {v : Value} {xs : List α} (h : Own E e B w v xs) (hB : B' ≤ B) : Fresh E B' w v xs := Fresh.lower h.k hB
theorem fresh_nil (E : El α) (B : Nat) (w : World) : Fresh E B w (.slice none 0 0) [] := (Own.nil E 0 B w).k
/-- A row told by its block. -/
theorem own_blk {E : El α} {e B g cap : Nat} {w : World} {cur : Array Value} {xs : List α} {css : List (List Value)} (hb : w.heap[g]? = some (.cells cur e (0, 0))) (hB : B ≤ g) (hn : xs.length ≤ cap) (hcap : cap ≤ 9223372036854775807) (hs : cur.size = cap * E.sz)
    (ht : cur.toList.take (xs.length * E.sz) = css.flatten) (hK : All2 (E.K (fun k => B ≤ k ∧ k ≠ g) w) xs css) : Own E e B w (.slice (some ⟨g, 0, none⟩) xs.length cap) xs := by
  refine ⟨css, ⟨?_, .inr ⟨g, cap, cur, rfl, hB, hb, hn, by simpa only [maxLen] using hcap, hs, ht⟩⟩, hK.imp fun _ _ h => E.mono (fun k hk => ⟨hk.1, by simp only [Value.ownBlock, ne_eq, Option.some.injEq]; exact fun e => hk.2 e.symm⟩) h⟩
  have hl : cur.toList.length = cap * E.sz := by simpa using hs
  rw [← ht, List.length_take, hl]
  exact Nat.min_eq_left (Nat.mul_le_mul_right _ hn)
theorem All2.of_map {β γ : Type} {R : β → γ → Prop} {f : β → γ} (h : ∀ x, R x (f x)) : ∀ xs, All2 R xs (xs.map f)
  | [] => .nil
  | x :: xs => .cons (h x) (All2.of_map h xs)
theorem flatten_single {β γ : Type} (f : β → γ) : ∀ xs : List β, (xs.map fun x => [f x]).flatten = xs.map f
  | [] => rfl
  | x :: xs => by simp [flatten_single f xs]
theorem own_ints {e B g : Nat} {w : World} {xs : List Int} (hb : w.heap[g]? = some (.cells (xs.map (Value.int .i64)).toArray e (0, 0))) (hB : B ≤ g) (hn : xs.length ≤ 9223372036854775807) : Own elInt e B w (.slice (some ⟨g, 0, none⟩) xs.length xs.length) xs :=
  own_blk (css := xs.map fun x => [Value.int .i64 x]) hb hB (Nat.le_refl _) hn (by simp [elInt, El.flat]) (by rw [flatten_single (Value.int .i64)]; simp only [elInt, El.flat, Nat.mul_one]; exact List.take_of_length_le (by simp)) (All2.of_map (R := elInt.K (fun k => B ≤ k ∧ k ≠ g) w) (f := fun x => [Value.int .i64 x]) (fun x => rfl) xs)

section
variable {P : Program} {ops : Array Oper} {rest : List Oper} {a : Act} {Q : Exit → Act → World → Prop} {w : World}
/-- append(s, x), x laid in a row of its own ahead of it. -/
theorem ev_append {w0 : World} {d1 d2 : Tmp} {t ty1 ty2 : TypeId} {s : Operand} {p1 p2 : String} {f1 f2 : Array Edge} {B : Nat}
    (E : El α) (e : Nat) (z : Value) (sz bytes : Nat) {x : Operand} {y : Value} {v : Value} {xs : List α} {x0 : α}
    (ht : P.underlying t = some (.slice e)) (hinfo : (P.info? e).map (fun i => (i.zero, i.size, i.bytes)) = some (some z, sz, bytes)) (hE : E.sz = sz) (hz : z.cells.size = sz) (hsz : 0 < sz) (hb0 : 0 < bytes)
    (hx : a.eval x = y) (hs : ∀ u, (a.put (some d1) u).eval s = v) (hd : ∀ u, (a.put (some d1) u).eval (.tmp d1) = u)
    (hbs : ∀ w, (Instr.buildSlice t 1 #[(0, y)]).run P w = .ok (.slice (some ⟨w.heap.size, 0, none⟩) 1 1) (w.alloc (.cells y.cells e)))
    (HO : Own E e B w v xs) (HE : Ext w0 w) (hB : B = w0.heap.size) (hK : E.K (fun k => B ≤ k ∧ v.ownBlock ≠ some k) w x0 y.cells.toList) (hl : (xs.length + 1) * bytes ≤ 140737488355328)
    (h : ∀ u v1 w1, Own E e B w1 v1 (xs ++ [x0]) → Ext w0 w1 → w.grownBy w1 v.ownBlock → (v1.ownBlock = v.ownBlock ∨ ∃ b, v1.ownBlock = some b ∧ w.heap.size ≤ b) → wpList P ops Q rest ((a.put (some d1) u).put (some d2) v1) w1) :
    wpList P ops Q ({ dst := some d1, op := .buildSlice t 1 #[(0, x)], type := ty1, pos := p1, after := f1, guard := none } :: { dst := some d2, op := .call { callee := .builtin .append, args := #[s, .tmp d1], argTypes := #[t, t] }, type := ty2, pos := p2, after := f2, guard := none } :: rest) a w := by
  subst hE
  obtain ⟨i, hi, hz0, hz1, hz2⟩ := info_parts hinfo
  obtain ⟨css, h1, h2⟩ := HO
  refine wp_run (v := .slice (some ⟨w.heap.size, 0, none⟩) 1 1) (w1 := w.alloc (.cells y.cells e)) rfl ?_ ?_
  · simp only [execOp, List.map_toArray, List.map_cons, List.map_nil, hx, Sem.run_bind, hbs]
    rfl
  have hlen : y.cells.toList.length = E.sz := E.len hK
  have hx1 : xs.length + 1 ≤ 140737488355328 := Nat.le_trans (Nat.le_mul_of_pos_right _ hb0) hl
  refine wpList_append_own_at (w.alloc (.cells y.cells e)) rfl s (.tmp d1) t rfl B e i z E.sz bytes ht hi hz0 hz1 hz2 hz hsz v xs.length css.flatten (hs _) (h1.alloc _) ⟨w.heap.size, 0, none⟩ 1 1 y.cells.toList (hd _) (by rw [hlen, Nat.one_mul])
    (fun j u hu => by rw [add_plain, blk_cell (blk_new w _)]; simpa using hu) (E.one hK) (by simp only [maxLen]; omega) hl (by have := HE.size; simp; omega) ?_
  intro v1 w1 hown hg _ hat
  have hgg : w.grownBy w1 v.ownBlock := World.grownBy.trans (World.grownBy_alloc w _ _) hg
  have hrow : ∀ k, v.ownBlock = some k → B ≤ k := fun k hk => (h1.lt k hk).1
  have hat2 : v1.ownBlock = v.ownBlock ∨ ∃ b, v1.ownBlock = some b ∧ w.heap.size ≤ b := by
    rcases hat with hat | hat
    · exact .inl hat
    · exact .inr ⟨_, hat, by simp⟩
  have hkeep : ∀ {x cs}, E.K (fun k => B ≤ k ∧ v.ownBlock ≠ some k) w x cs → E.K (fun k => B ≤ k ∧ v1.ownBlock ≠ some k) w1 x cs := fun {x cs} hk => E.mono (fun k hk => ⟨hk.1.1, by
      rcases hat2 with h | ⟨b, h, hb⟩
      · rw [h]; exact hk.1.2
      · rw [h]; simp only [ne_eq, Option.some.injEq]; have := hk.2; omega⟩) (E.mv (fun k hk hq => hgg.block k hk (fun e1 => hq.1.2 e1.symm)) (E.bd hk))
  refine h _ v1 w1 ⟨css ++ [y.cells.toList], ?_, (h2.imp fun _ _ => hkeep).snoc (hkeep hK)⟩ ?_ hgg hat2
  · simpa using hown
  · exact ⟨hgg.os.trans HE.os, hgg.tape.trans HE.tape, hgg.output.trans HE.output, Nat.le_trans HE.size hgg.size, fun k hk => (hgg.block k (Nat.lt_of_lt_of_le hk HE.size) (fun e1 => by have := hrow k e1.symm; omega)).trans (HE.block k hk)⟩
end

theorem litInt (n : Int) (w : World) : (Instr.buildSlice 70 1 #[(0, .int .i64 n)]).run Tryz.prog w = .ok (.slice (some ⟨w.heap.size, 0, none⟩) 1 1) (w.alloc (.cells (.int .i64 n : Value).cells 3)) := by kernel_rfl
theorem ev_appInt {ops : Array Oper} {rest : List Oper} {a : Act} {Q : Exit → Act → World → Prop} {w w0 : World} {d1 d2 : Tmp} {ty1 ty2 : TypeId} {s x : Operand} {p1 p2 : String} {f1 f2 : Array Edge} {B : Nat} {v : Value} {xs : List Int} (x0 : Int)
    (hx : a.eval x = .int .i64 x0) (hs : ∀ u, (a.put (some d1) u).eval s = v) (hd : ∀ u, (a.put (some d1) u).eval (.tmp d1) = u)
    (HO : Own elInt 3 B w v xs) (HE : Ext w0 w) (hB : B = w0.heap.size) (hl : xs.length < 1000000)
    (h : ∀ u v1 w1, Own elInt 3 B w1 v1 (xs ++ [x0]) → Ext w0 w1 → w.grownBy w1 v.ownBlock → (v1.ownBlock = v.ownBlock ∨ ∃ b, v1.ownBlock = some b ∧ w.heap.size ≤ b) → wpList Tryz.prog ops Q rest ((a.put (some d1) u).put (some d2) v1) w1) :
    wpList Tryz.prog ops Q ({ dst := some d1, op := .buildSlice 70 1 #[(0, x)], type := ty1, pos := p1, after := f1, guard := none } :: { dst := some d2, op := .call { callee := .builtin .append, args := #[s, .tmp d1], argTypes := #[70, 70] }, type := ty2, pos := p2, after := f2, guard := none } :: rest) a w :=
  ev_append elInt 3 _ 1 _ Tryz.underlying70 iInt rfl rfl (by decide) (by decide) hx hs hd (litInt x0) HO HE hB rfl (by omega) h

theorem litMk (x : Mk) (w : World) : (Instr.buildSlice 67 1 #[(0, .agg #[.int .i64 x.br, .int .i64 x.ev])]).run Tryz.prog w = .ok (.slice (some ⟨w.heap.size, 0, none⟩) 1 1) (w.alloc (.cells (.agg #[.int .i64 x.br, .int .i64 x.ev] : Value).cells 109)) := by kernel_rfl
theorem ev_appMk {ops : Array Oper} {rest : List Oper} {a : Act} {Q : Exit → Act → World → Prop} {w w0 : World} {d1 d2 : Tmp} {ty1 ty2 : TypeId} {s x : Operand} {p1 p2 : String} {f1 f2 : Array Edge} {B : Nat} {v : Value} {xs : List Mk} (x0 : Mk)
    (hx : a.eval x = .agg #[.int .i64 x0.br, .int .i64 x0.ev]) (hs : ∀ u, (a.put (some d1) u).eval s = v) (hd : ∀ u, (a.put (some d1) u).eval (.tmp d1) = u)
    (HO : Own elMk 109 B w v xs) (HE : Ext w0 w) (hB : B = w0.heap.size) (hl : xs.length < 1000000)
    (h : ∀ u v1 w1, Own elMk 109 B w1 v1 (xs ++ [x0]) → Ext w0 w1 → w.grownBy w1 v.ownBlock → (v1.ownBlock = v.ownBlock ∨ ∃ b, v1.ownBlock = some b ∧ w.heap.size ≤ b) → wpList Tryz.prog ops Q rest ((a.put (some d1) u).put (some d2) v1) w1) :
    wpList Tryz.prog ops Q ({ dst := some d1, op := .buildSlice 67 1 #[(0, x)], type := ty1, pos := p1, after := f1, guard := none } :: { dst := some d2, op := .call { callee := .builtin .append, args := #[s, .tmp d1], argTypes := #[67, 67] }, type := ty2, pos := p2, after := f2, guard := none } :: rest) a w :=
  ev_append elMk 109 _ 2 _ Tryz.underlying67 iMk rfl rfl (by decide) (by decide) hx hs hd (litMk x0) HO HE hB rfl (by omega) h

theorem litEv (x : Ev) (w : World) : (Instr.buildSlice 72 1 #[(0, .agg #[.int .u8 x.kind, .string x.chg])]).run Tryz.prog w = .ok (.slice (some ⟨w.heap.size, 0, none⟩) 1 1) (w.alloc (.cells (.agg #[.int .u8 x.kind, .string x.chg] : Value).cells 76)) := by kernel_rfl
theorem ev_appEv {ops : Array Oper} {rest : List Oper} {a : Act} {Q : Exit → Act → World → Prop} {w w0 : World} {d1 d2 : Tmp} {ty1 ty2 : TypeId} {s x : Operand} {p1 p2 : String} {f1 f2 : Array Edge} {B : Nat} {v : Value} {xs : List Ev} (x0 : Ev)
    (hx : a.eval x = .agg #[.int .u8 x0.kind, .string x0.chg]) (hs : ∀ u, (a.put (some d1) u).eval s = v) (hd : ∀ u, (a.put (some d1) u).eval (.tmp d1) = u)
    (HO : Own elEv 76 B w v xs) (HE : Ext w0 w) (hB : B = w0.heap.size) (hl : xs.length < 1000000)
    (h : ∀ u v1 w1, Own elEv 76 B w1 v1 (xs ++ [x0]) → Ext w0 w1 → w.grownBy w1 v.ownBlock → (v1.ownBlock = v.ownBlock ∨ ∃ b, v1.ownBlock = some b ∧ w.heap.size ≤ b) → wpList Tryz.prog ops Q rest ((a.put (some d1) u).put (some d2) v1) w1) :
    wpList Tryz.prog ops Q ({ dst := some d1, op := .buildSlice 72 1 #[(0, x)], type := ty1, pos := p1, after := f1, guard := none } :: { dst := some d2, op := .call { callee := .builtin .append, args := #[s, .tmp d1], argTypes := #[72, 72] }, type := ty2, pos := p2, after := f2, guard := none } :: rest) a w :=
  ev_append elEv 76 _ 2 _ Tryz.underlying72 iEv rfl rfl (by decide) (by decide) hx hs hd (litEv x0) HO HE hB rfl (by omega) h

theorem ints_cell {g e : Nat} {w : World} {xs : List Int} (hb : w.heap[g]? = some (.cells (xs.map (Value.int .i64)).toArray e (0, 0))) {k : Nat} (hk : k < xs.length) : w.cell? ⟨g, k, none⟩ = some (.int .i64 xs[k]) := by
  rw [blk_cell hb]; simp [hk]
theorem ints_set {g e : Nat} {w : World} {xs : List Int} (hb : w.heap[g]? = some (.cells (xs.map (Value.int .i64)).toArray e (0, 0))) (k : Nat) (v : Int) : (w.setCell ⟨g, k, none⟩ (.int .i64 v)).heap[g]? = some (.cells ((xs.set k v).map (Value.int .i64)).toArray e (0, 0)) := by
  rw [blk_set hb]
  simp [List.map_set]
theorem Own.blk {E : El α} {e B : Nat} {w : World} {v : Value} {xs : List α} (h : Own E e B w v xs) : ∀ b, v.ownBlock = some b → B ≤ b ∧ b < w.heap.size := by
  obtain ⟨css, h1, _⟩ := h
  exact h1.lt
theorem Own.form {E : El α} {e B : Nat} {w : World} {v : Value} {xs : List α} (h : Own E e B w v xs) : ∃ A c, v = .slice A xs.length c ∧ xs.length ≤ c := by
  obtain ⟨css, h1, _⟩ := h
  obtain ⟨A, c, h2, h3, _⟩ := own_form h1
  exact ⟨A, c, h2, h3⟩
theorem litMks (A : Option Addr) (n c : Nat) (w : World) : (Instr.buildSlice 176 1 #[(0, .slice A n c)]).run Tryz.prog w = .ok (.slice (some ⟨w.heap.size, 0, none⟩) 1 1) (w.alloc (.cells (.slice A n c : Value).cells 67)) := by kernel_rfl
theorem ev_appMks {ops : Array Oper} {rest : List Oper} {a : Act} {Q : Exit → Act → World → Prop} {w w0 : World} {d1 d2 : Tmp} {ty1 ty2 : TypeId} {s x : Operand} {p1 p2 : String} {f1 f2 : Array Edge} {B : Nat} {v : Value} {xs : List (List Mk)} (x0 : List Mk) {A : Option Addr} {n c : Nat}
    (hx : a.eval x = .slice A n c) (hs : ∀ u, (a.put (some d1) u).eval s = v) (hd : ∀ u, (a.put (some d1) u).eval (.tmp d1) = u)
    (HO : Own (El.sl elMk) 67 B w v xs) (HE : Ext w0 w) (hB : B = w0.heap.size) (hK : (El.sl elMk).K (fun k => B ≤ k ∧ v.ownBlock ≠ some k) w x0 [.slice A n c]) (hl : xs.length < 1000000)
    (h : ∀ u v1 w1, Own (El.sl elMk) 67 B w1 v1 (xs ++ [x0]) → Ext w0 w1 → wpList Tryz.prog ops Q rest ((a.put (some d1) u).put (some d2) v1) w1) :
    wpList Tryz.prog ops Q ({ dst := some d1, op := .buildSlice 176 1 #[(0, x)], type := ty1, pos := p1, after := f1, guard := none } :: { dst := some d2, op := .call { callee := .builtin .append, args := #[s, .tmp d1], argTypes := #[176, 176] }, type := ty2, pos := p2, after := f2, guard := none } :: rest) a w :=
  ev_append (El.sl elMk) 67 _ 1 _ Tryz.underlying176 iMks rfl rfl (by decide) (by decide) hx hs hd (litMks A n c) HO HE hB hK (by omega) fun u v1 w1 h1 h2 _ _ => h u v1 w1 h1 h2

/-- Elements that lead to no rows. -/
def El.Flat (E : El α) : Prop := ∀ ok ok' w w' x cs, E.K ok w x cs → E.K ok' w' x cs
theorem flInt : elInt.Flat := fun _ _ _ _ _ _ h => h
theorem flStr : elStr.Flat := fun _ _ _ _ _ _ h => h
theorem flMk : elMk.Flat := fun _ _ _ _ _ _ h => h
theorem flEv : elEv.Flat := fun _ _ _ _ _ _ h => h
theorem flBr : elBr.Flat := fun _ _ _ _ _ _ h => h
theorem flKn : elKn.Flat := fun _ _ _ _ _ _ h => h
theorem flGp : elGp.Flat := fun _ _ _ _ _ _ h => h
theorem css_of {E : El α} {ok : Nat → Prop} {w : World} {ad : Addr} : ∀ (ys : List α) (m : Nat), (∀ i y, ys[i]? = some y → ∃ cs, E.K ok w y cs ∧ ∀ j u, cs[j]? = some u → w.cell? (ad.add ((m + i) * E.sz + j)) = some u) →
    ∃ css : List (List Value), All2 (E.K ok w) ys css ∧ ∀ j u, css.flatten[j]? = some u → w.cell? (ad.add (m * E.sz + j)) = some u
  | [], m, _ => ⟨[], .nil, fun j u hu => by simp at hu⟩
  | y :: ys, m, h => by
    obtain ⟨cs, hk, hc⟩ := h 0 y rfl
    obtain ⟨css, h1, h2⟩ := css_of ys (m + 1) (fun i z hz => by
      obtain ⟨cs, h3, h4⟩ := h (i + 1) z (by simpa using hz)
      exact ⟨cs, h3, fun j u hu => by rw [show m + 1 + i = m + (i + 1) from by omega]; exact h4 j u hu⟩)
    refine ⟨cs :: css, .cons hk h1, fun j u hu => ?_⟩
    have hl := E.len hk
    rw [List.flatten_cons, List.getElem?_append] at hu
    split at hu
    · have := hc j u hu
      rwa [Nat.add_zero] at this
    · have := h2 (j - cs.length) u hu
      rw [Nat.succ_mul] at this
      rw [← this]
      congr 2
      omega
theorem Rd.css {E : El α} (hf : E.Flat) (ok : Nat → Prop) {w : World} {A : Option Addr} {ys : List α} (h : Rd E w A ys) (hn : 0 < ys.length) : ∃ ad css, A = some ad ∧ All2 (E.K ok w) ys css ∧ ∀ j u, css.flatten[j]? = some u → w.cell? (ad.add j) = some u := by
  obtain ⟨ad, _, rfl, _⟩ := h.2 0 _ (List.getElem?_eq_getElem hn)
  obtain ⟨css, h1, h2⟩ := css_of (E := E) (ok := ok) (w := w) (ad := ad) ys 0 (fun i y hy => by
    obtain ⟨ad', cs, e1, ⟨_, h3⟩, h4⟩ := h.2 i y hy
    cases e1
    exact ⟨cs, hf _ _ _ _ _ _ h3, fun j u hu => by rw [Nat.zero_add]; exact h4 j u hu⟩)
  exact ⟨ad, css, rfl, h1, fun j u hu => by have := h2 j u hu; rwa [Nat.zero_mul, Nat.zero_add] at this⟩
theorem All2.append {β γ : Type} {R : β → γ → Prop} {xs ys xs' ys'} (a : All2 R xs ys) (b : All2 R xs' ys') : All2 R (xs ++ xs') (ys ++ ys') := by
  induction a with
  | nil => exact b
  | cons h _ ih => exact .cons h ih
theorem flat_len {E : El α} {ok : Nat → Prop} {w : World} {xs : List α} {css : List (List Value)} (h : All2 (E.K ok w) xs css) : css.flatten.length = xs.length * E.sz := by
  induction h with
  | nil => simp
  | cons hk _ ih => rw [List.flatten_cons, List.length_append, ih, E.len hk, List.length_cons, Nat.succ_mul]; omega
theorem flat_one {E : El α} {ok : Nat → Prop} {w : World} {xs : List α} {css : List (List Value)} (h : All2 (E.K ok w) xs css) : ∀ u ∈ css.flatten, u.oneCell' = true := by
  induction h with
  | nil => intro u hu; simp at hu
  | cons hk _ ih =>
    intro u hu
    rw [List.flatten_cons, List.mem_append] at hu
    exact hu.elim (E.one hk u) (ih u)
section
variable {P : Program} {ops : Array Oper} {rest : List Oper} {a : Act} {Q : Exit → Act → World → Prop} {w : World}
theorem run_append_zero {t ty e : TypeId} {i : TypeInfo} (ht : P.underlying t = some (.slice e)) (hi : P.info? e = some i) {base : Option Addr} {n cap c : Nat} {A : Option Addr} (hn : n ≤ cap) :
    (Builtin.append_ #[t, t] ty #[.slice base n cap, .slice A 0 c]).run P w = .ok (.slice base n cap) w := by
  cases A <;> cases base <;> simp [Builtin.append_, underlying, program, Sem.run, ht, sizeOf, typeInfo, hi, Builtin.lenOf, hn, Builtin.firstCells, loadCells, loadCellsFrom, storeCells, Sem.run_bind, Sem.run_pure]
/-- append(s, x...), the elements of x without rows. -/
theorem ev_appendSl {w0 : World} {d2 : Option Tmp} {t ty2 : TypeId} {s x : Operand} {p2 : String} {f2 : Array Edge} {B : Nat}
    (E : El α) (hf : E.Flat) (e : Nat) (z : Value) (sz bytes : Nat) {v : Value} {xs ys : List α} {A : Option Addr} {c : Nat}
    (ht : P.underlying t = some (.slice e)) (hinfo : (P.info? e).map (fun i => (i.zero, i.size, i.bytes)) = some (some z, sz, bytes)) (hE : E.sz = sz) (hz : z.cells.size = sz) (hsz : 0 < sz) (hb0 : 0 < bytes)
    (hs : a.eval s = v) (hx : a.eval x = .slice A ys.length c) (hr : Rd E w A ys)
    (HO : Own E e B w v xs) (HE : Ext w0 w) (hB : B = w0.heap.size) (hl : (xs.length + ys.length) * bytes ≤ 140737488355328)
    (h : ∀ v1 w1, Own E e B w1 v1 (xs ++ ys) → Ext w0 w1 → w.grownBy w1 v.ownBlock → (v1.ownBlock = v.ownBlock ∨ ∃ b, v1.ownBlock = some b ∧ w.heap.size ≤ b) → wpList P ops Q rest (a.put d2 v1) w1) :
    wpList P ops Q ({ dst := d2, op := .call { callee := .builtin .append, args := #[s, x], argTypes := #[t, t] }, type := ty2, pos := p2, after := f2, guard := none } :: rest) a w := by
  subst hE
  obtain ⟨i, hi, hz0, hz1, hz2⟩ := info_parts hinfo
  rcases Nat.eq_zero_or_pos ys.length with h0 | h0
  · obtain ⟨A', c', hv, hc, _⟩ := own_form HO.choose_spec.1
    have hys : ys = [] := List.eq_nil_of_length_eq_zero h0
    subst hys
    refine wp_run (v := v) (w1 := w) rfl ?_ (h v w (by simpa using HO) HE ⟨rfl, rfl, rfl, Nat.le_refl _, fun _ _ _ => rfl⟩ (.inl rfl))
    simp only [execOp, resolve, invoke, builtin, List.map_toArray, List.map_cons, List.map_nil, hs, hx, Sem.run_bind, Sem.run_pure, Result.andThen_ok]
    subst hv
    rw [List.length_nil, run_append_zero ht hi hc]
    rfl
  · obtain ⟨ad, css2, rfl, hk2, hc2⟩ := hr.css hf (fun k => B ≤ k ∧ v.ownBlock ≠ some k) h0
    obtain ⟨css, h1, h2⟩ := HO
    have hle : xs.length + ys.length ≤ 140737488355328 := Nat.le_trans (Nat.le_mul_of_pos_right _ hb0) hl
    refine wpList_append_own_at w rfl s x t rfl B e i z E.sz bytes ht hi hz0 hz1 hz2 hz hsz v xs.length css.flatten hs h1 ad ys.length c css2.flatten hx (flat_len hk2) hc2 (flat_one hk2) (by simp only [maxLen]; omega) hl (by have := HE.size; omega) ?_
    intro v1 w1 hown hgg _ hat
    have hrow : ∀ k, v.ownBlock = some k → B ≤ k := fun k hk => (h1.lt k hk).1
    have hat2 : v1.ownBlock = v.ownBlock ∨ ∃ b, v1.ownBlock = some b ∧ w.heap.size ≤ b := hat.imp id fun h => ⟨_, h, Nat.le_refl _⟩
    have hkeep : ∀ {x cs}, E.K (fun k => B ≤ k ∧ v.ownBlock ≠ some k) w x cs → E.K (fun k => B ≤ k ∧ v1.ownBlock ≠ some k) w1 x cs := fun {x cs} hk => hf _ _ _ _ _ _ hk
    refine h v1 w1 ⟨css ++ css2, ?_, (h2.imp fun _ _ => hkeep).append (hk2.imp fun _ _ => hkeep)⟩ ?_ hgg hat2
    · simpa using hown
    · exact ⟨hgg.os.trans HE.os, hgg.tape.trans HE.tape, hgg.output.trans HE.output, Nat.le_trans HE.size hgg.size, fun k hk => (hgg.block k (Nat.lt_of_lt_of_le hk HE.size) (fun e1 => by have := hrow k e1.symm; omega)).trans (HE.block k hk)⟩
end

section
variable {P : Program} {ops : Array Oper} {rest : List Oper} {a : Act} {Q : Exit → Act → World → Prop} {w : World}
theorem run_cut {t e : TypeId} {i : TypeInfo} (ht : P.underlying t = some (.slice e)) (hi : P.info? e = some i) {A : Option Addr} {n cap m : Nat} {k : IntKind} (hm : m ≤ cap) :
    (Instr.sliceAt t (.slice A n cap) none (some (.int k (m : Int))) none).run P w = .ok (.slice A m cap) w := by
  have h0 : (0 : Int) ≤ (m : Int) ∧ (m : Int) ≤ (cap : Int) := by omega
  cases A <;> simp [Instr.sliceAt, Instr.slice, underlying, program, Sem.run, ht, sizeOf, typeInfo, hi, Instr.sliceBounds, Instr.sliceBound, asIntOf, Sem.run_bind, Sem.run_pure, h0, add_zero'] <;> omega
/-- x[:m]. -/
theorem ev_cut {d : Option Tmp} {t e ty : TypeId} {i : TypeInfo} {x hi : Operand} {pos : String} {af : Array Edge} {A : Option Addr} {n cap m : Nat} {k : IntKind} (ht : P.underlying t = some (.slice e)) (hin : P.info? e = some i)
    (hx : a.eval x = .slice A n cap) (hh : a.eval hi = .int k (m : Int)) (hm : m ≤ cap) (h : wpList P ops Q rest (a.put d (.slice A m cap)) w) :
    wpList P ops Q ({ dst := d, op := .slice t x none (some hi) none, type := ty, pos := pos, after := af, guard := none } :: rest) a w := by
  refine wp_run (v := .slice A m cap) (w1 := w) rfl ?_ h
  simp only [execOp, hx, hh, Option.map_none, Option.map_some, Sem.run_bind, run_cut ht hin hm]
  rfl
end

/-- make([]int, n). -/
theorem mkInt (n : Nat) (hn : n ≤ 1000000) (W : World) : (Instr.makeSlice 70 (.int .i64 (n : Int)) (.int .i64 (n : Int))).run Tryz.prog W = .ok (.slice (some ⟨W.heap.size, 0, none⟩) n n) (W.alloc (.cells (madeCells #[.int .i64 0] n) 3)) :=
  run_make_row' 70 3 (.int .i64 0) 8 Tryz.underlying70 iInt rfl .i64 .i64 n (by omega) (by omega) W
theorem made_ints (n : Nat) : madeCells #[.int .i64 0] n = ((List.replicate n (0 : Int)).map (Value.int .i64)).toArray := by
  apply Array.ext
  · simp [madeCells]
  · intro i h1 h2
    simp [madeCells, Nat.mod_one]
theorem ev_makeInt {ops : Array Oper} {rest : List Oper} {a : Act} {Q : Exit → Act → World → Prop} {w : World} {d : Option Tmp} {l c : Operand} {ty : TypeId} {pos : String} {af : Array Edge} {n : Nat} (hl : a.eval l = .int .i64 (n : Int)) (hc : a.eval c = .int .i64 (n : Int)) (hn : n ≤ 1000000)
    (h : ∀ g w1, w1.heap[g]? = some (.cells ((List.replicate n (0 : Int)).map (Value.int .i64)).toArray 3 (0, 0)) → Ext w w1 → w.heap.size ≤ g → wpList Tryz.prog ops Q rest (a.put d (.slice (some ⟨g, 0, none⟩) n n)) w1) :
    wpList Tryz.prog ops Q ({ dst := d, op := .makeSlice 70 l c, type := ty, pos := pos, after := af, guard := none } :: rest) a w := by
  refine wp_run (v := .slice (some ⟨w.heap.size, 0, none⟩) n n) (w1 := w.alloc (.cells (madeCells #[.int .i64 0] n) 3)) rfl ?_ (h _ _ (by rw [← made_ints]; exact blk_new w _) ((Ext.refl w).alloc _) (Nat.le_refl _))
  simp only [execOp, hl, hc, Sem.run_bind, mkInt n hn]
  rfl
theorem ev_appsMk {ops : Array Oper} {rest : List Oper} {a : Act} {Q : Exit → Act → World → Prop} {w w0 : World} {d2 : Option Tmp} {ty2 : TypeId} {s x : Operand} {p2 : String} {f2 : Array Edge} {B : Nat} {v : Value} {xs : List Mk} (ys : List Mk) {A : Option Addr} {c n : Nat}
    (hs : a.eval s = v) (hx : a.eval x = .slice A n c) (hn : ys.length = n) (hr : Rd elMk w A ys) (HO : Own elMk 109 B w v xs) (HE : Ext w0 w) (hB : B = w0.heap.size) (hl : xs.length + ys.length < 1000000)
    (h : ∀ v1 w1, Own elMk 109 B w1 v1 (xs ++ ys) → Ext w0 w1 → wpList Tryz.prog ops Q rest (a.put d2 v1) w1) :
    wpList Tryz.prog ops Q ({ dst := d2, op := .call { callee := .builtin .append, args := #[s, x], argTypes := #[67, 67] }, type := ty2, pos := p2, after := f2, guard := none } :: rest) a w := by
  subst hn
  exact ev_appendSl elMk flMk 109 _ _ _ Tryz.underlying67 iMk rfl rfl (by decide) (by decide) hs hx hr HO HE hB (by omega) fun v1 w1 h1 h2 _ _ => h v1 w1 h1 h2
theorem ev_appsEv {ops : Array Oper} {rest : List Oper} {a : Act} {Q : Exit → Act → World → Prop} {w w0 : World} {d2 : Option Tmp} {ty2 : TypeId} {s x : Operand} {p2 : String} {f2 : Array Edge} {B : Nat} {v : Value} {xs : List Ev} (ys : List Ev) {A : Option Addr} {c n : Nat}
    (hs : a.eval s = v) (hx : a.eval x = .slice A n c) (hn : ys.length = n) (hr : Rd elEv w A ys) (HO : Own elEv 76 B w v xs) (HE : Ext w0 w) (hB : B = w0.heap.size) (hl : xs.length + ys.length < 1000000)
    (h : ∀ v1 w1, Own elEv 76 B w1 v1 (xs ++ ys) → Ext w0 w1 → wpList Tryz.prog ops Q rest (a.put d2 v1) w1) :
    wpList Tryz.prog ops Q ({ dst := d2, op := .call { callee := .builtin .append, args := #[s, x], argTypes := #[72, 72] }, type := ty2, pos := p2, after := f2, guard := none } :: rest) a w := by
  subst hn
  exact ev_appendSl elEv flEv 76 _ _ _ Tryz.underlying72 iEv rfl rfl (by decide) (by decide) hs hx hr HO HE hB (by omega) fun v1 w1 h1 h2 _ _ => h v1 w1 h1 h2
theorem Own.lower {E : El α} {e B B' : Nat} {w : World} {v : Value} {xs : List α} (h : Own E e B w v xs) (hB : B' ≤ B) : Own E e B' w v xs := by
  obtain ⟨css, h1, h2⟩ := h
  refine ⟨css, ?_, h2.imp fun _ _ hk => E.mono (fun k hk => ⟨Nat.le_trans hB hk.1, hk.2⟩) hk⟩
  obtain ⟨h3, h4⟩ := h1
  refine ⟨h3, ?_⟩
  rcases h4 with h4 | ⟨g, cap, cur, h5, h6, h7⟩
  · exact .inl h4
  · exact .inr ⟨g, cap, cur, h5, Nat.le_trans hB h6, h7⟩
end Go.Proofs.YtgibdafkidkahaaGreatDoor
