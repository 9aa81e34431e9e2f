/- Derived: walks: the reference of layer 34: all gaps, and those of a branch as they were. -/
import Derived.Test.YtgibdafkidkahaaGreatDoorRef34B
import Derived.Test.YtgibdafkidkahaaGreatDoorMGaps
import Derived.Lib.OwnKind
set_option linter.unusedVariables false
set_option linter.unusedSimpArgs false
namespace Go.Proofs.YtgibdafkidkahaaGreatDoor
open Go.RowKit

/-- Slices as values. -/
abbrev SlV := Option Addr × Nat × Nat
def elSV : El SlV := .flat 1 (fun x => [.slice x.1 x.2.1 x.2.2]) (fun _ => rfl) (fun _ u hu => by simp at hu; subst hu; rfl)
theorem flSV : elSV.Flat := fun _ _ _ _ _ _ h => h
theorem iInts : (Tryz.prog.info? 70).map (fun i => (i.zero, i.size, i.bytes)) = some (some (.slice none 0 0), 1, 24) := by kernel_rfl
theorem litStr (s : Str) (w : World) : (Instr.buildSlice 78 1 #[(0, .string s)]).run Tryz.prog w = .ok (.slice (some ⟨w.heap.size, 0, none⟩) 1 1) (w.alloc (.cells (.string s : Value).cells 9)) := by kernel_rfl
theorem ev_appStr {ops : Array Oper} {rest : List Oper} {a : Act} {Q : Exit → Act → World → Prop} {w w0 : World} {d1 d2 : Tmp} {ty1 ty2 : TypeId} {s x : Operand} {p1 p2 : String} {f1 f2 : Array Edge} {B : Nat} {v : Value} {xs : List Str} (x0 : Str)
    (hx : a.eval x = .string x0) (hs : ∀ u, (a.put (some d1) u).eval s = v) (hd : ∀ u, (a.put (some d1) u).eval (.tmp d1) = u)
    (HO : Own elStr 9 B w v xs) (HE : Ext w0 w) (hB : B = w0.heap.size) (hl : xs.length < 1000000)
    (h : ∀ u v1 w1, Own elStr 9 B w1 v1 (xs ++ [x0]) → Ext w0 w1 → w.grownBy w1 v.ownBlock → (v1.ownBlock = v.ownBlock ∨ ∃ b, v1.ownBlock = some b ∧ w.heap.size ≤ b) → wpList Tryz.prog ops Q rest ((a.put (some d1) u).put (some d2) v1) w1) :
    wpList Tryz.prog ops Q ({ dst := some d1, op := .buildSlice 78 1 #[(0, x)], type := ty1, pos := p1, after := f1, guard := none } :: { dst := some d2, op := .call { callee := .builtin .append, args := #[s, .tmp d1], argTypes := #[78, 78] }, type := ty2, pos := p2, after := f2, guard := none } :: rest) a w :=
  ev_append elStr 9 _ 1 _ Tryz.underlying78 iStr rfl rfl (by decide) (by decide) hx hs hd (litStr x0) HO HE hB rfl (by omega) h
theorem litInts (A : Option Addr) (n c : Nat) (w : World) : (Instr.buildSlice 143 1 #[(0, .slice A n c)]).run Tryz.prog w = .ok (.slice (some ⟨w.heap.size, 0, none⟩) 1 1) (w.alloc (.cells (.slice A n c : Value).cells 70)) := by kernel_rfl
theorem ev_appSV {ops : Array Oper} {rest : List Oper} {a : Act} {Q : Exit → Act → World → Prop} {w w0 : World} {d1 d2 : Tmp} {ty1 ty2 : TypeId} {s x : Operand} {p1 p2 : String} {f1 f2 : Array Edge} {B : Nat} {v : Value} {xs : List SlV} (x0 : SlV)
    (hx : a.eval x = .slice x0.1 x0.2.1 x0.2.2) (hs : ∀ u, (a.put (some d1) u).eval s = v) (hd : ∀ u, (a.put (some d1) u).eval (.tmp d1) = u)
    (HO : Own elSV 70 B w v xs) (HE : Ext w0 w) (hB : B = w0.heap.size) (hl : xs.length < 1000000)
    (h : ∀ u v1 w1, Own elSV 70 B w1 v1 (xs ++ [x0]) → Ext w0 w1 → w.grownBy w1 v.ownBlock → (v1.ownBlock = v.ownBlock ∨ ∃ b, v1.ownBlock = some b ∧ w.heap.size ≤ b) → wpList Tryz.prog ops Q rest ((a.put (some d1) u).put (some d2) v1) w1) :
    wpList Tryz.prog ops Q ({ dst := some d1, op := .buildSlice 143 1 #[(0, x)], type := ty1, pos := p1, after := f1, guard := none } :: { dst := some d2, op := .call { callee := .builtin .append, args := #[s, .tmp d1], argTypes := #[143, 143] }, type := ty2, pos := p2, after := f2, guard := none } :: rest) a w :=
  ev_append elSV 70 _ 1 _ Tryz.underlying143 iInts rfl rfl (by decide) (by decide) hx hs hd (litInts x0.1 x0.2.1 x0.2.2) HO HE hB rfl (by omega) h
/-- Rows of other types lie in other blocks. -/
theorem own_ne {α β : Type} {E : El α} {E' : El β} {e e' B B' : Nat} {w : World} {v v' : Value} {xs : List α} {ys : List β} (h : Own E e B w v xs) (h' : Own E' e' B' w v' ys) (hne : e ≠ e') : ∀ k, v.ownBlock = some k → v'.ownBlock ≠ some k := by
  intro k hk hk'
  obtain ⟨css, h1, _⟩ := h
  obtain ⟨css', h1', _⟩ := h'
  obtain ⟨c, fz, h2⟩ := Lib.ownsRow_kind h1 k hk
  obtain ⟨c', fz', h2'⟩ := Lib.ownsRow_kind h1' k hk'
  rw [h2] at h2'
  simp only [Option.some.injEq, Obj.cells.injEq] at h2'
  exact hne h2'.2.1
/-- A row of rows of numbers that grows. -/
def InsAt (B : Nat) (wr : World) (v : Value) (ins : List (List Int)) : Prop :=
  ∃ svs : List SlV, Own elSV 70 B wr v svs ∧ All2 (fun (sv : SlV) (inn : List Int) => ∃ B', Own elInt 3 B' wr (.slice sv.1 sv.2.1 sv.2.2) inn) svs ins
theorem InsAt.nil (B : Nat) (w : World) : InsAt B w (.slice none 0 0) [] := ⟨[], Own.nil _ _ _ _, .nil⟩
theorem InsAt.ext {B : Nat} {w w' : World} {v : Value} {ins : List (List Int)} (h : InsAt B w v ins) (he : Ext w w') : InsAt B w' v ins := by
  obtain ⟨svs, h1, h2⟩ := h
  exact ⟨svs, h1.ext he, h2.imp fun _ _ ⟨B', h⟩ => ⟨B', h.ext he⟩⟩
theorem InsAt.grown {α : Type} {E : El α} {e B B' : Nat} {w w' : World} {v v' : Value} {ins : List (List Int)} {xs : List α} (h : InsAt B w v ins) (ho : Own E e B' w v' xs) (he1 : e ≠ 70) (he2 : e ≠ 3) (hg : w.grownBy w' v'.ownBlock) : InsAt B w' v ins := by
  obtain ⟨svs, h1, h2⟩ := h
  exact ⟨svs, h1.grown flSV hg (own_ne ho h1 he1), h2.imp fun _ _ ⟨B', h⟩ => ⟨B', h.grown flInt hg (own_ne ho h he2)⟩⟩
theorem InsAt.rd {B : Nat} {w : World} {v : Value} {ins : List (List Int)} (h : InsAt B w v ins) : ∃ A c, v = .slice A ins.length c ∧ Rd (El.sl elInt) w A ins := by
  obtain ⟨svs, h1, h2⟩ := h
  obtain ⟨A, c, rfl, hc, hr⟩ := h1.sl
  have hl := h2.length
  refine ⟨A, c, by rw [hl], by rw [← hl]; exact hr.1, fun i x hx => ?_⟩
  have hi : i < svs.length := by rw [hl]; exact (List.getElem?_eq_some_iff.1 hx).1
  have hs : svs[i]? = some svs[i] := List.getElem?_eq_getElem hi
  obtain ⟨y, hy, B', ho⟩ := h2.get hs
  rw [hx] at hy
  cases hy
  obtain ⟨ad, cs, h3, ⟨_, h4⟩, h5⟩ := hr.2 i _ hs
  exact ⟨ad, cs, h3, ⟨_, by rw [h4]; exact ho.k⟩, h5⟩
theorem bsOf_fst {g : Lg} : (bsOf g).map (·.1) = g.brs.map (·.name) := by unfold bsOf; rw [List.map_map]; rfl
theorem bsOf_snd {g : Lg} : (bsOf g).map (·.2) = g.brs.map fun b => effectL g b.name := by unfold bsOf; rw [List.map_map]; rfl
theorem map_take_succ {α β : Type} {l : List α} {k : Nat} {x : α} (h : l[k]? = some x) (f : α → β) : (l.take (k + 1)).map f = (l.take k).map f ++ [f x] := by rw [List.take_add_one, h]; simp
set_option maxRecDepth 100000 in
set_option maxHeartbeats 4000000 in
theorem ref34_Gaps (g : Lg) (fx : List Fx) (v : Value) (A : Option Addr) (c : Nat) (w : World) (hv : LgV w v g) (hf : Rd elFx w A fx) :
    Calls Tryz.prog 82 #[v, .slice A fx.length c] w fun e w' => ∃ r, e = .returned (.tuple #[r, .int .i64 (checkF g fx)]) ∧ Own elGp 62 w.heap.size w' r (gapsL g fx) ∧ Ext w w' := by
  obtain ⟨A0, c0, A1, c1, A2, c2, rfl, h0, h1, h2, r0, r1, r2⟩ := hv.ex
  by_cases hck : checkF g fx = 0
  · have hb8 : g.brs.length ≤ 8 := (checkB_zero (checkL_zero (checkF_zero hck).1).1.1.1.1.2).1
    have hf30 := (checkF_zero hck).2.1
    have HCK := Lib.hid hck
    rw [hck]
    clear hck
    go_enter Tryz.func82, Tryz.ntmps82
    go_wp2_with (with_reducible refine stop_box ?_)
    refine Stop.go ?_
    refine ev_box3 (c0 := .slice A0 g.known.length c0) (c1 := .slice A1 g.brs.length c1) (c2 := .slice A2 g.evs.length c2) rfl ?_
    intro g1 w1 hb_g1 he hg_g1 k0 k1 k2
    have HE := Lib.hid he
    have HV := Lib.hid (hv.ext he)
    have RF := Lib.hid (hf.ext he)
    have R1 := Lib.hid (r1.ext he)
    clear he r0 r1 r2 hv hf hb_g1 hg_g1
    go_wp2_with fail
    refine (ref34_Check g fx _ A c w1 HV.out RF.out).mono ?_
    rintro e w2 ⟨rfl, he2⟩
    rw [HCK.out]
    have HE2 := Lib.hid he2
    clear he2
    have k1' := HE2.out.cell k1
    go_wp2
    go_loopw [6, 7, 8] (fun nv iv i wr => ∃ k : Nat, k ≤ g.brs.length ∧ i = .int .i64 (k : Int) ∧ Hid (Own elStr 9 w1.heap.size wr nv ((g.brs.take k).map (·.name))) ∧ Hid (InsAt w1.heap.size wr iv ((g.brs.take k).map fun b => effectL g b.name)) ∧ Hid (Ext w1 wr)) (fun _ _ i _ => g.brs.length - (intOf i).toNat)
    case atStart => exact ⟨0, Nat.zero_le _, rfl, Own.nil _ _ _ _, InsAt.nil _ _, HE2.out⟩
    case round =>
      clear k1'
      obtain ⟨k, hk, rfl, HNM, HIN, hE⟩ := hrel
      have p0 := hE.out.cell k0
      have p1 := hE.out.cell k1
      have p2 := hE.out.cell k2
      by_cases hlt : k < g.brs.length
      · have hx : g.brs[k]? = some g.brs[k] := List.getElem?_eq_getElem hlt
        generalize g.brs[k] = x at hx
        obtain ⟨ad, e0, q0, q1, q2⟩ := (R1.out.ext hE.out).br hx
        cases e0
        have HT1 := Lib.hid (map_take_succ hx (fun b => b.name))
        have HT2 := Lib.hid (map_take_succ hx (fun b => effectL g b.name))
        have HEF := Lib.hid (ref29_Effect g x.name _ wr.drew (HV.out.ext hE.out.drew))
        clear hx q1 q2
        have y0 : ∀ y : Up wr, y.u.cell? _ = _ := fun y => y.ext.cell p0
        have y1 : ∀ y : Up wr, y.u.cell? _ = _ := fun y => y.ext.cell p1
        have y2 : ∀ y : Up wr, y.u.cell? _ = _ := fun y => y.ext.cell p2
        have y3 : ∀ y : Up wr, y.u.cell? _ = _ := fun y => y.ext.cell q0
        go_wp2
        refine wp_region_planU [(true, 0), (true, 1), (true, 2), (true, 3), (true, 4), (true, 5), (true, 6), (false, 7), (true, 8), (true, 9), (true, 10), (true, 11), (true, 12)] (by kernel_rfl) (by kernel_rfl) ?_
        iterate 7 ((try go_frame); refine plan_read ?_; go_big_quiet_step (fail); refine wpQuiet_nil ?_)
        refine plan_enter (F := 88) rfl (fun _ _ => by kernel_rfl) (Ext.refl wr).drew (HEF.out.mono ?_)
        rintro e w4 ⟨r, rfl, hin, he4⟩
        obtain ⟨A5, c5, rfl, hc5, _⟩ := hin.sl
        refine ⟨_, rfl, he4, ?_⟩
        iterate 5 ((try go_frame); refine plan_read ?_; go_big_quiet_step (fail); refine wpQuiet_nil ?_)
        refine plan_end ?_
        have hE4 : Ext wr w4 := (Ext.refl wr).drew.trans he4
        have HE4 := Lib.hid (hE.out.trans hE4)
        have HNM4 := Lib.hid (HNM.out.ext hE4)
        have HIN4 := Lib.hid (HIN.out.ext hE4)
        have HEFI := Lib.hid hin
        have b0 := hE4.cell p1
        have b1 := hE4.cell q0
        clear hin he4 hc5 hE4 HNM HIN HEF y0 y1 y2 y3 p0 p1 p2 q0
        go_wp2_with (with_reducible refine stop_lit ?_)
        refine Stop.go ?_
        refine ev_appStr x.name rfl (fun _ => rfl) (fun _ => rfl) HNM4.out HE4.out rfl (by rw [List.length_map, List.length_take]; omega) ?_
        intro u v5 w5 ho5 he5 hg5 _
        have HNM5 := Lib.hid ho5
        have HE5 := Lib.hid he5
        have HIN5 := Lib.hid (HIN4.out.grown HNM4.out (by decide) (by decide) hg5)
        have HEF5 := Lib.hid (HEFI.out.grown flInt hg5 (own_ne HNM4.out HEFI.out (by decide)))
        clear ho5 he5 hg5 HNM4 HIN4 HEFI HE4 b0 b1
        obtain ⟨svs, h5a, h5b⟩ := HIN5.out
        have hl5 := h5b.length
        rw [List.length_map, List.length_take] at hl5
        have H5A := Lib.hid h5a
        have H5B := Lib.hid h5b
        have HLN : Hid (svs.length < 1000000) := Lib.hid (by rw [hl5]; omega)
        clear h5a h5b hl5 HIN5
        go_wp2_with (with_reducible refine stop_lit ?_)
        refine Stop.go ?_
        refine ev_appSV (A5, (effectL g x.name).length, c5) rfl (fun _ => rfl) (fun _ => rfl) H5A.out HE5.out rfl HLN.out ?_
        intro u2 v6 w6 ho6 he6 hg6 _
        have HNM6 : Hid (Own elStr 9 w1.heap.size w6 v5 ((g.brs.take (k + 1)).map (·.name))) := Lib.hid (by rw [HT1.out]; exact HNM5.out.grown flStr hg6 (own_ne H5A.out HNM5.out (by decide)))
        have HIN6 : Hid (InsAt w1.heap.size w6 v6 ((g.brs.take (k + 1)).map fun b => effectL g b.name)) := Lib.hid ⟨_, ho6, by
          rw [HT2.out]
          refine (H5B.out.imp fun sv inn ⟨B', h⟩ => ⟨B', h.grown flInt hg6 (own_ne H5A.out h (by decide))⟩).snoc ⟨_, HEF5.out.grown flInt hg6 (own_ne H5A.out HEF5.out (by decide))⟩⟩
        have HE6 := Lib.hid he6
        clear ho6 he6 hg6 HNM5 HEF5 HE5 H5A H5B HLN
        go_wp2
        go_roundw
        case rel => exact ⟨k + 1, by omega, by go_num, HNM6.out, HIN6.out, HE6.out⟩
        case measure => simp [intOf]; omega
      · have hn1 := HNM.out
        have hi1 := HIN.out
        rw [List.take_of_length_le (by omega)] at hn1 hi1
        obtain ⟨A6, c6, rfl, _, hr6⟩ := hn1.sl
        obtain ⟨A7, c7, rfl, hr7⟩ := hi1.rd
        rw [← bsOf_fst] at hr6
        rw [← bsOf_snd] at hr7
        have hlen : (bsOf g).length = g.brs.length := by simp [bsOf]
        have HC := Lib.hid (ref34_ordered g fx (bsOf g) _ A A6 A7 c c6 c7 g.brs.length wr (HV.out.ext hE.out) (RF.out.ext hE.out) hr6 hr7 hlen hf30 hb8)
        rw [List.length_map, List.length_map]
        have HE7 := Lib.hid (HE.out.trans hE.out)
        clear HNM HIN hn1 hi1 hr6 hr7 hlen hE
        go_wp2_with fail
        refine HC.out.mono ?_
        rintro e w7 ⟨r, rfl, hown, he7⟩
        have HO := Lib.hid (hown.lower HE7.out.size)
        have HE8 := Lib.hid (HE7.out.trans he7)
        clear hown he7 HC
        go_wp2
        go_ret2
        exact ⟨_, rfl, by rw [gapsL_ok HCK.out]; exact HO.out, HE8.out⟩
  · have e9 : (checkF g fx != 0) = true := bne_iff_ne.2 hck
    rw [gapsL_nil hck]
    have HC : Hid (∀ w2, Ext w w2 → _) := Lib.hid fun w2 (he : Ext w w2) => ref34_Check g fx _ A c w2 (hv.ext he) (hf.ext he)
    clear hck
    generalize checkF g fx = z at *
    go_enter Tryz.func82, Tryz.ntmps82
    go_wp2_with (with_reducible refine stop_box ?_)
    refine Stop.go ?_
    refine ev_box3 (c0 := .slice A0 g.known.length c0) (c1 := .slice A1 g.brs.length c1) (c2 := .slice A2 g.evs.length c2) rfl ?_
    intro g1 w1 hb_g1 he hg_g1 k0 k1 k2
    have HE_w1 := Lib.hid he
    clear he r0 r1 r2 hv hf hb_g1 hg_g1
    go_wp2_with fail
    refine (HC.out  w1 HE_w1.out).mono ?_
    rintro e w2 ⟨rfl, he_w2⟩
    replace k0 := he_w2.cell k0
    replace k1 := he_w2.cell k1
    replace k2 := he_w2.cell k2
    have HE_w2 : Hid (Ext w w2) := Lib.hid (HE_w1.out.trans he_w2)
    clear he_w2 HE_w1
    go_wp2_with fail
    refine (HC.out  w2 HE_w2.out).mono ?_
    rintro e w3 ⟨rfl, he_w3⟩
    have HE_w3 : Hid (Ext w w3) := Lib.hid (HE_w2.out.trans he_w3)
    clear he_w3 HE_w2
    go_wp2
    go_ret2
    exact ⟨_, rfl, Own.nil _ _ _ _, HE_w3.out⟩
end Go.Proofs.YtgibdafkidkahaaGreatDoor
