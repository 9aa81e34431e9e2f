/- Derived: walks: gaps are put in order. -/
import Derived.Test.YtgibdafkidkahaaGreatDoorOrder
import Derived.Test.YtgibdafkidkahaaGreatDoorSortK
import Derived.Test.YtgibdafkidkahaaGreatDoorShelf
import Derived.Shelf.SlSortCmp.NoneTotal
set_option linter.unusedVariables false
set_option linter.unusedSimpArgs false
namespace Go.Proofs.YtgibdafkidkahaaGreatDoor
open Go.RowKit

abbrev GpS := { x : Gp // GpB x }
instance : Inhabited GpS := ⟨⟨⟨ByteArray.empty, 0, 1⟩, by unfold GpB; decide⟩⟩
def encGp (x : Gp) : List Value := [.string x.br, .int .i64 x.cls, .int .i64 x.wt]
theorem swo_cmp (pos : Str → Int) : Sort.SWO (ltOf fun x y : GpS => cmpG pos x.1 y.1) where
  irrefl x := by simpa [ltOf] using (cmpG_swo pos x.1 x.1 x.1).1
  trans x y z h1 h2 := by
    simp only [ltOf, decide_eq_true_eq] at *
    exact (cmpG_swo pos x.1 y.1 z.1).2.1 h1 h2
  ntrans x y z h1 h2 := by
    simp only [ltOf, decide_eq_false_iff_not] at *
    exact (cmpG_swo pos x.1 y.1 z.1).2.2 h1 h2
theorem own_pos {α : Type} {E : El α} {e B : Nat} {w : World} {A : Option Addr} {n c : Nat} {xs : List α} (h : Own E e B w (.slice A n c) xs) (hn : 0 < xs.length) : ∃ g, A = some ⟨g, 0, none⟩ ∧ n = xs.length := by
  obtain ⟨css, h1, _⟩ := h
  rcases h1.2 with ⟨_, h0⟩ | ⟨g, cap, cur, hv, _⟩
  · omega
  · cases hv; exact ⟨g, rfl, rfl⟩
theorem pmap_val : ∀ (xs : List Gp) (hb : ∀ x ∈ xs, GpB x), (xs.pmap Subtype.mk hb).map (fun x : GpS => x.1) = xs
  | [], _ => rfl
  | x :: xs, hb => by simp only [List.pmap, List.map_cons, pmap_val xs]
/-- What is put in order. -/
def Ordered (g : Lg) (xs ys : List Gp) : Prop := xs.Perm ys ∧ ys.Pairwise fun x y => ¬ cmpG (idx g.brs) y x < 0
set_option maxRecDepth 100000 in
set_option maxHeartbeats 4000000 in
theorem sort_gaps (g : Lg) (xs : List Gp) (A0 A1 A2 : Option Addr) (c0 c1 c2 gb : Nat) (A : Option Addr) (c : Nat) (w0 w : World) (hv : LgV w0 (.agg #[.slice A0 g.known.length c0, .slice A1 g.brs.length c1, .slice A2 g.evs.length c2]) g) (he : Ext w0 w)
    (k : w.heap[gb]? = some (.cells #[.slice A0 g.known.length c0, .slice A1 g.brs.length c1, .slice A2 g.evs.length c2] 26 (0, 0)))
    (ho : Own elGp 62 w0.heap.size w (.slice A xs.length c) xs) (hb : ∀ x ∈ xs, GpB x) (hsz : xs.length < 1000000) :
    Calls Tryz.prog 159 #[.slice A xs.length c, .func (.func 160) #[] #[.pointer (some ⟨gb, 0, none⟩)]] w fun e w' => ∃ ys, e = .returned (.tuple #[]) ∧ ys.length = xs.length ∧ Ordered g xs ys ∧ Own elGp 62 w0.heap.size w' (.slice A ys.length c) ys ∧ Ext w0 w' := by
  rcases Nat.eq_zero_or_pos xs.length with h0 | h0
  · have hx : xs = [] := List.eq_nil_of_length_eq_zero h0
    subst hx
    have hcon := AnyF.slices_SortFunc_none Tryz.sortGp A c (.func (.func 160) #[] #[.pointer (some ⟨gb, 0, none⟩)]) w
    change Calls Tryz.prog 159 _ _ _ at hcon
    exact hcon.mono fun e w' ⟨h1, h2⟩ => ⟨[], h1, rfl, ⟨List.Perm.refl _, .nil⟩, by rw [h2]; exact ho, by rw [h2]; exact he⟩
  · obtain ⟨blk, rfl, _⟩ := own_pos ho h0
    obtain ⟨d, hd⟩ : ∃ d : Array GpS, d.toList.map (fun x => x.1) = xs := ⟨(xs.pmap Subtype.mk hb).toArray, pmap_val xs hb⟩
    have hdl : d.size = xs.length := by rw [← hd]; simp
    rw [← hd] at ho
    obtain ⟨hB, hlt, ⟨cur, hcur, hcs, hdc, hcm⟩, hH⟩ := own_holds (E := elGp) (f := fun x : GpS => x.1) (enc := encGp) (fun _ _ _ _ h => h) (fun _ => rfl) ho
    have eg : ∀ args w, (callFunc 160 args).run Tryz.prog w = .ok (.enter 160 args) w := fun _ _ => by kernel_rfl
    have hgb : gb ≠ blk := by
      intro e
      subst e
      rw [hcur] at k
      simp only [Option.some.injEq, Obj.cells.injEq] at k
      exact absurd k.2.1 (by decide)
    have hcmp : CmpLays Tryz.prog 160 #[.pointer (some ⟨gb, 0, none⟩)] (fun x : GpS => encGp x.1) 3 (fun x y : GpS => cmpG (idx g.brs) x.1 y.1) blk 0 d.size w := by
      intro m os dk hdk x y
      obtain ⟨_, hkeep, _⟩ := sortWorldK_block (fun x : GpS => encGp x.1) 3 w blk m dk os hcur
      have hext := sort_ext (fun x : GpS => encGp x.1) 3 (m := m) dk os hcur he hB
      have hblk := (hkeep gb (blk_lt k) hgb).trans k
      exact (order_cmp g x.1 y.1 x.2 y.2 gb A0 A1 A2 c0 c1 c2 _ (hv.ext hext) (blk_cell hblk 0) (blk_cell hblk 1) (blk_cell hblk 2)).mono fun e w' ⟨h1, h2⟩ => ⟨h1, h2⟩
    have hcon := AnyQ.slices_SortFunc Tryz.sortGp 3 Tryz.isAgg62 Tryz.sizeOf62 (fun x : GpS => encGp x.1) (fun _ => rfl) (fun x v hv => by simp [encGp] at hv; rcases hv with rfl | rfl | rfl <;> rfl) (fun x y => cmpG (idx g.brs) x.1 y.1) (swo_cmp _) 160 #[.pointer (some ⟨gb, 0, none⟩)] blk 0 c d w eg hcmp hH hlt (by omega)
    change Calls Tryz.prog 159 _ _ _ at hcon
    rw [hdl] at hcon
    refine hcon.mono ?_
    rintro e w' ⟨h1, d', n, os, hp, hs, rfl⟩
    rw [← hdl] at hp
    obtain ⟨hp1, hp2⟩ := permIn_all hp
    have hs2 := sortedIn_all (by omega) hs
    obtain ⟨hown, hext⟩ := own_sorted (E := elGp) (f := fun x : GpS => x.1) (enc := encGp) (B := w0.heap.size) (w0 := w0) (m := n) (d' := d') (os := os) (fun _ _ _ => rfl) (fun _ => rfl) hB hcur hcs hdc hcm hH hp1 he hB
    refine ⟨d'.toList.map (fun x => x.1), h1, by simp [hp1, hdl], ⟨?_, ?_⟩, ?_, hext⟩
    · rw [← hd]
      exact (hp2.map _).symm
    · rw [List.pairwise_map]
      exact hs2.imp fun {x y} h => by simpa [ltOf] using h
    · have e : (d'.toList.map (fun x : GpS => x.1)).length = d'.size := by simp only [List.length_map, Array.length_toList]
      rw [e]
      exact hown
set_option maxRecDepth 100000 in
set_option maxHeartbeats 4000000 in
theorem missing_order (g : Lg) (xs : List Gp) (v : Value) (A : Option Addr) (c : Nat) (w0 w : World) (hv : LgV w0 v g) (he : Ext w0 w)
    (ho : Own elGp 62 w0.heap.size w (.slice A xs.length c) xs) (hb : ∀ x ∈ xs, GpB x) (hsz : xs.length < 1000000) :
    Calls Tryz.prog 75 #[v, .slice A xs.length c] w fun e w' => ∃ ys, e = .returned (.slice A ys.length c) ∧ Ordered g xs ys ∧ Own elGp 62 w0.heap.size w' (.slice A ys.length c) ys ∧ Ext w0 w' := by
  obtain ⟨A0, c0, A1, c1, A2, c2, rfl, h0, h1, h2, r0, r1, r2⟩ := hv.ex
  have HV := Lib.hid hv
  have HO := Lib.hid ho
  have HE := Lib.hid he
  have HB := Lib.hid hb
  clear r0 r1 r2 hv ho he hb
  go_enter Tryz.func75, Tryz.ntmps75
  go_wp2_with (with_reducible refine stop_box ?_)
  refine Stop.go ?_
  refine ev_box3 (c0 := .slice A0 g.known.length c0) (c1 := .slice A1 g.brs.length c1) (c2 := .slice A2 g.evs.length c2) rfl ?_
  intro g1 w1 hb_g1 he hg_g1 k0 k1 k2
  have HC := Lib.hid (sort_gaps g xs A0 A1 A2 c0 c1 c2 g1 A c w0 w1 HV.out (HE.out.trans he) hb_g1 (HO.out.ext he) HB.out hsz)
  clear he hb_g1 hg_g1 HO HE
  obtain ⟨n, hn⟩ : ∃ n, n = xs.length := ⟨_, rfl⟩
  rw [← hn] at HC ⊢
  have HN := Lib.hid hn
  clear hn
  go_wp2_with fail
  refine HC.out.mono ?_
  rintro e w2 ⟨ys, rfl, hl, hord, hown, hext⟩
  have HL := Lib.hid hl
  have HOR := Lib.hid hord
  have HOW := Lib.hid hown
  have HEX := Lib.hid hext
  clear hl hord hown hext HC
  go_wp2
  go_ret
  exact ⟨ys, by rw [HL.out]; rfl, HOR.out, HOW.out, HEX.out⟩
end Go.Proofs.YtgibdafkidkahaaGreatDoor
