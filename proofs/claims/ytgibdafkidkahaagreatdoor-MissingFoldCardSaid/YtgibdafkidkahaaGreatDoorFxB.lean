/- Derived: walks: fixes in memory; slices.Index and Contains; maps from numbers to bools. -/
import Derived.Test.YtgibdafkidkahaaGreatDoorLView
import Derived.Test.YtgibdafkidkahaaGreatDoorGrw
import Derived.Test.YtgibdafkidkahaaGreatDoorMisL
set_option linter.unusedVariables false
set_option linter.unusedSimpArgs false
namespace Go.Proofs.YtgibdafkidkahaaGreatDoor
open Go.RowKit

def elFx : El Fx where
  sz := 3
  K := fun ok w x cs => ∃ v, cs = [.int .i64 x.cls, .int .i64 x.wt, v] ∧ (El.sl elStr).K ok w x.brs [v]
  len := fun ⟨_, h, _⟩ => by rw [h]; rfl
  one := fun ⟨v, h, hk⟩ u hu => by
    subst h
    simp only [List.mem_cons, List.not_mem_nil, or_false] at hu
    rcases hu with rfl | rfl | rfl
    · rfl
    · rfl
    · exact (El.sl elStr).one hk _ (by simp)
  mv := fun hm ⟨v, h, hk⟩ => ⟨v, h, (El.sl elStr).mv hm hk⟩
  mono := fun hm ⟨v, h, hk⟩ => ⟨v, h, (El.sl elStr).mono hm hk⟩
  bd := fun ⟨v, h, hk⟩ => ⟨v, h, (El.sl elStr).bd hk⟩
theorem Rd.fx {w : World} {A : Option Addr} {xs : List Fx} (h : Rd elFx w A xs) {k : Nat} {x : Fx} (hk : xs[k]? = some x) :
    ∃ ad B c, A = some ad ∧ w.cell? (ad.add (k * 3)) = some (.int .i64 x.cls) ∧ w.cell? ⟨(ad.add (k * 3)).block, (ad.add (k * 3)).off + 1, none⟩ = some (.int .i64 x.wt) ∧ w.cell? ⟨(ad.add (k * 3)).block, (ad.add (k * 3)).off + 2, none⟩ = some (.slice B x.brs.length c) ∧ x.brs.length ≤ c ∧ Rd elStr w B x.brs := by
  obtain ⟨ad, cs, rfl, ⟨ok, v, rfl, hv⟩, hc⟩ := h.2 k x hk
  obtain ⟨B, c, rfl, hc2, hr⟩ := k_sl hv
  refine ⟨ad, B, c, rfl, hc 0 _ rfl, ?_, ?_, hc2, hr⟩
  · rw [← add_field _ _ _ (by omega)]; exact hc 1 _ rfl
  · rw [← add_field _ _ _ (by omega)]; exact hc 2 _ rfl
theorem zFx : (Tryz.prog.info? 80).map (fun i => (i.zero, i.size)) = some (some (.agg #[.int .i64 0, .int .i64 0, .slice none 0 0]), 3) := by kernel_rfl
theorem iStr : (Tryz.prog.info? 9).map (fun i => (i.zero, i.size, i.bytes)) = some (some (.string ⟨#[]⟩), 1, 16) := by kernel_rfl
/-- A fix by value. -/
def FxV (w : World) (v : Value) (f : Fx) : Prop := ∃ B c, v = .agg #[.int .i64 f.cls, .int .i64 f.wt, .slice B f.brs.length c] ∧ f.brs.length ≤ c ∧ Rd elStr w B f.brs
theorem FxV.ext {w w' : World} {v : Value} {f : Fx} (h : FxV w v f) (he : Ext w w') : FxV w' v f := by
  obtain ⟨B, c, h1, h2, h3⟩ := h
  exact ⟨B, c, h1, h2, h3.ext he⟩

theorem Index_Str (l : List Str) (s : Str) (A : Option Addr) (c : Nat) (w : World) (hl : Rd elStr w A l) :
    Calls Tryz.prog 218 #[.slice A l.length c, .string s] w fun e w' => e = .returned (.int .i64 (idxP (fun x => decide (x = s)) l)) ∧ w = w' := by
  have hm := hl.1
  go_enter Tryz.func218, Tryz.ntmps218
  go_wp2
  go_loop [8] (fun i => ∃ k : Nat, k ≤ l.length ∧ i = .int .i64 k ∧ Hid (∀ j x, j < k → l[j]? = some x → decide (x = s) = false)) (fun i => l.length - (intOf i).toNat)
  case atStart => exact ⟨0, Nat.zero_le _, rfl, fun j x hj => absurd hj (by omega)⟩
  case round =>
    obtain ⟨k, hk, rfl, hn⟩ := hrel
    by_cases hlt : k < l.length
    · have hx : l[k]? = some l[k] := List.getElem?_eq_getElem hlt
      generalize l[k] = x at hx
      obtain ⟨ad, rfl, h0⟩ := hl.str hx
      have HX := Lib.hid hx
      clear hx hl
      by_cases hs : s = x
      · have e1 := seq_t hs
        have HV : Hid (idxP (fun x => decide (x = s)) l = k) := Lib.hid (idxP_found HX.out hn.out (by simp [hs]))
        clear hs
        go_wp2
        go_ret
        exact ⟨ret_int HV.out.symm, rfl⟩
      · have e1 := seq_f hs
        have HS : Hid (decide (x = s) = false) := Lib.hid (decide_eq_false (Ne.symm hs))
        clear hs
        go_wp2
        go_round
        case rel =>
          refine ⟨k + 1, by omega, by go_num, fun j y hj hy => ?_⟩
          rcases Nat.lt_succ_iff_lt_or_eq.1 hj with h | rfl
          · exact hn.out j y h hy
          · rw [HX.out] at hy; cases hy; exact HS.out
        case measure => simp [intOf]; omega
    · go_wp2
      go_ret
      refine ⟨ret_int (idxP_none fun j y hy => hn.out j y ?_ hy).symm, rfl⟩
      have := (List.getElem?_eq_some_iff.1 hy).1
      omega
theorem Contains_Str (l : List Str) (s : Str) (A : Option Addr) (c : Nat) (w : World) (hl : Rd elStr w A l) :
    Calls Tryz.prog 158 #[.slice A l.length c, .string s] w fun e w' => e = .returned (.bool (l.any fun x => decide (x = s))) ∧ w = w' := by
  go_enter Tryz.func158, Tryz.ntmps158
  go_wp2_with fail
  refine (Index_Str l s A c w hl).mono ?_
  rintro e w2 ⟨rfl, rfl⟩
  have hb : decide (0 ≤ idxP (fun x => decide (x = s)) l) = (l.any fun x => decide (x = s)) := idxP_any _ l
  go_wp2
  go_ret
  exact ⟨rfl, rfl⟩
theorem Contains_Str_n (l : List Str) (s : Str) (A : Option Addr) (n c : Nat) (w : World) (hl : Rd elStr w A l) (hn : l.length = n) :
    Calls Tryz.prog 158 #[.slice A n c, .string s] w fun e w' => e = .returned (.bool (l.any fun x => decide (x = s))) ∧ w = w' := by
  subst hn; exact Contains_Str l s A c w hl
theorem Index_Int (l : List Int) (s : Int) (A : Option Addr) (c : Nat) (w : World) (hl : Rd elInt w A l) :
    Calls Tryz.prog 197 #[.slice A l.length c, .int .i64 s] w fun e w' => e = .returned (.int .i64 (idxP (fun x => decide (x = s)) l)) ∧ w = w' := by
  have hm := hl.1
  go_enter Tryz.func197, Tryz.ntmps197
  go_wp2
  go_loop [8] (fun i => ∃ k : Nat, k ≤ l.length ∧ i = .int .i64 k ∧ Hid (∀ j x, j < k → l[j]? = some x → decide (x = s) = false)) (fun i => l.length - (intOf i).toNat)
  case atStart => exact ⟨0, Nat.zero_le _, rfl, fun j x hj => absurd hj (by omega)⟩
  case round =>
    obtain ⟨k, hk, rfl, hn⟩ := hrel
    by_cases hlt : k < l.length
    · have hx : l[k]? = some l[k] := List.getElem?_eq_getElem hlt
      generalize l[k] = x at hx
      obtain ⟨ad, rfl, h0⟩ := hl.int hx
      have HX := Lib.hid hx
      clear hx hl
      by_cases hs : s = x
      · have e1 : (s == x) = true := by rw [hs]; exact beq_self_eq_true _
        have HV : Hid (idxP (fun x => decide (x = s)) l = k) := Lib.hid (idxP_found HX.out hn.out (by simp [hs]))
        clear hs
        go_wp2
        go_ret
        exact ⟨ret_int HV.out.symm, rfl⟩
      · have e1 : (s == x) = false := beq_eq_false_iff_ne.2 hs
        have HS : Hid (decide (x = s) = false) := Lib.hid (decide_eq_false (Ne.symm hs))
        clear hs
        go_wp2
        go_round
        case rel =>
          refine ⟨k + 1, by omega, by go_num, fun j y hj hy => ?_⟩
          rcases Nat.lt_succ_iff_lt_or_eq.1 hj with h | rfl
          · exact hn.out j y h hy
          · rw [HX.out] at hy; cases hy; exact HS.out
        case measure => simp [intOf]; omega
    · go_wp2
      go_ret
      refine ⟨ret_int (idxP_none fun j y hy => hn.out j y ?_ hy).symm, rfl⟩
      have := (List.getElem?_eq_some_iff.1 hy).1
      omega
theorem Contains_Int (l : List Int) (s : Int) (A : Option Addr) (c : Nat) (w : World) (hl : Rd elInt w A l) :
    Calls Tryz.prog 142 #[.slice A l.length c, .int .i64 s] w fun e w' => e = .returned (.bool (l.any fun x => decide (x = s))) ∧ w = w' := by
  go_enter Tryz.func142, Tryz.ntmps142
  go_wp2_with fail
  refine (Index_Int l s A c w hl).mono ?_
  rintro e w2 ⟨rfl, rfl⟩
  have hb : decide (0 ≤ idxP (fun x => decide (x = s)) l) = (l.any fun x => decide (x = s)) := idxP_any _ l
  go_wp2
  go_ret
  exact ⟨rfl, rfl⟩

/-- A map from numbers to bools. -/
abbrev MapIB (w : World) (g : Nat) (m : List (Int × Bool)) : Prop := IsMap (Value.int .i64) Value.bool w g m
theorem keyI : KeyOk Tryz.prog 3 (Value.int .i64) := keyInt Tryz.underlying3
theorem zeroB (w : World) : (zeroValue 4).run Tryz.prog w = .ok (.bool false) w := by kernel_rfl
theorem MapIB.look {w : World} {g : Nat} {m : List (Int × Bool)} (h : MapIB w g m) (k : Int) : (Instr.lookup 238 (.map (some g)) (.int .i64 k) false).run Tryz.prog w = .ok (.bool ((mget m k).getD false)) w :=
  (run_look keyI Tryz.underlying238 zeroB h k).1
theorem ev_putIB {ops : Array Oper} {rest : List Oper} {a : Act} {Q : Exit → Act → World → Prop} {w : World} {ty : TypeId} {p x y : Operand} {pos : String} {af : Array Edge} {g : Nat} {m : List (Int × Bool)} {k : Int} {v : Bool} (hp : a.eval p = .map (some g)) (hx : a.eval x = .int .i64 k) (hy : a.eval y = .bool v) (hm : MapIB w g m)
    (h : ∀ w1, MapIB w1 g (mset m k v) → Turned g w w1 → wpList Tryz.prog ops Q rest a w1) :
    wpList Tryz.prog ops Q ({ dst := none, op := .mapUpdate 238 p x y, type := ty, pos := pos, after := af, guard := none } :: rest) a w := by
  obtain ⟨w1, hr, h1, h2⟩ := run_put keyI Tryz.underlying238 hm k v
  refine wpList_plain rfl fun K hK => ?_
  unfold Oper.wp
  have : (execOp a.eval { dst := none, op := .mapUpdate 238 p x y, type := ty, pos := pos, after := af, guard := none }).run Tryz.prog w = .ok .skip w1 := by
    simp only [execOp, hp, hx, hy, Sem.run_bind, hr]
    rfl
  rw [this]
  exact hK _ _ (h w1 h1 h2)
/-- The classes of fixes, as a set. -/
def setC (l : List Fx) : List (Int × Bool) := l.foldl (fun m f => mset m f.cls true) []
theorem setC_take {l : List Fx} {k : Nat} {x : Fx} (h : l[k]? = some x) : setC (l.take (k + 1)) = mset (setC (l.take k)) x.cls true := by
  rw [List.take_add_one, h]
  unfold setC
  rw [List.foldl_append]
  rfl
theorem setC_get (l : List Fx) (c : Int) : (mget (setC l) c).getD false = l.any fun p => decide (p.cls = c) := by
  induction l using snoc_ind with
  | h0 => rfl
  | h1 l x ih =>
    have : setC (l ++ [x]) = mset (setC l) x.cls true := by unfold setC; rw [List.foldl_append]; rfl
    rw [this, mget_set, List.any_append]
    by_cases h : c = x.cls
    · rw [if_pos h]; simp [h]
    · rw [if_neg h, ih]; simp [Ne.symm h]
theorem dupStr_t {l : List Str} {i : Nat} {x : Str} (hx : l[i]? = some x) (h : ((l.take i).any fun y => decide (y = x)) = true) : dupStr l = true := by
  unfold dupStr
  rw [List.any_eq_true]
  refine ⟨i, List.mem_range.2 (List.getElem?_eq_some_iff.1 hx).1, ?_⟩
  rw [List.getD_eq_getElem?_getD, hx, Option.getD_some]
  exact h
theorem dupStr_f {l : List Str} (h : ∀ (i : Nat) (x : Str), l[i]? = some x → ((l.take i).any fun y => decide (y = x)) = false) : dupStr l = false := by
  unfold dupStr
  rw [List.any_eq_false]
  intro i hi
  rw [List.mem_range] at hi
  have hx : l[i]? = some l[i] := List.getElem?_eq_getElem hi
  rw [List.getD_eq_getElem?_getD, hx, Option.getD_some, h i _ hx]
  simp
theorem fxErr_8 {l : List Br} {pre : List Fx} {f : Fx} (h : badFx f = true) : fxErr l pre f = 8 := if_pos h
theorem fxErr_6 {l : List Br} {pre : List Fx} {f : Fx} (h : badFx f = false) (h1 : (f.brs.any fun b => decide (idx l b < 0)) = true) : fxErr l pre f = 6 := by rw [fxErr, if_neg (by simp [h]), if_pos h1]
theorem fxErr_14 {l : List Br} {pre : List Fx} {f : Fx} (h : badFx f = false) (h1 : (f.brs.any fun b => decide (idx l b < 0)) = false) (h2 : dupStr f.brs = true) : fxErr l pre f = 14 := by rw [fxErr, if_neg (by simp [h]), if_neg (by simp [h1]), if_pos h2]
theorem fxErr_14b {l : List Br} {pre : List Fx} {f : Fx} (h : badFx f = false) (h1 : (f.brs.any fun b => decide (idx l b < 0)) = false) (h2 : dupStr f.brs = false) (h3 : (pre.any fun p => decide (p.cls = f.cls)) = true) : fxErr l pre f = 14 := by rw [fxErr, if_neg (by simp [h]), if_neg (by simp [h1]), if_neg (by simp [h2]), if_pos h3]
theorem fxErr_0 {l : List Br} {pre : List Fx} {f : Fx} (h : badFx f = false) (h1 : (f.brs.any fun b => decide (idx l b < 0)) = false) (h2 : dupStr f.brs = false) (h3 : (pre.any fun p => decide (p.cls = f.cls)) = false) : fxErr l pre f = 0 := by rw [fxErr, if_neg (by simp [h]), if_neg (by simp [h1]), if_neg (by simp [h2]), if_neg (by simp [h3])]
/-- What the first fixes have shown. -/
def FxTo (g : Lg) (fx : List Fx) (k : Nat) : Prop := ∀ j x, j < k → fx[j]? = some x → fxErr g.brs (fx.take j) x = 0
theorem FxTo.succ {g : Lg} {fx : List Fx} {k : Nat} {x : Fx} (h : FxTo g fx k) (hx : fx[k]? = some x) (h0 : fxErr g.brs (fx.take k) x = 0) : FxTo g fx (k + 1) := by
  intro j y hj hy
  rcases Nat.lt_succ_iff_lt_or_eq.1 hj with h1 | rfl
  · exact h j y h1 hy
  · rw [hx] at hy; cases hy; exact h0
theorem checkF_at {g : Lg} {fx : List Fx} (hck : checkL g = 0) (h30 : ¬ 30 < fx.length) {k : Nat} {x : Fx} (hx : fx[k]? = some x) (h : FxTo g fx k) {n : Int} (he : fxErr g.brs (fx.take k) x = n) (hn : n ≠ 0) : checkF g fx = n := by
  rw [checkF_one hck h30, ← he]
  have := fxsErr_at (l := g.brs) fx [] k x hx (fun j y hj hy => by simpa using h j y hj hy) (by simpa [he] using hn)
  simpa using this
theorem checkF_all {g : Lg} {fx : List Fx} (hck : checkL g = 0) (h30 : ¬ 30 < fx.length) (h : FxTo g fx fx.length) : checkF g fx = 0 := by
  rw [checkF_one hck h30]
  exact fxsErr_ok fx [] (fun j y hy => by simpa using h j y (List.getElem?_eq_some_iff.1 hy).1 hy)
end Go.Proofs.YtgibdafkidkahaaGreatDoor
