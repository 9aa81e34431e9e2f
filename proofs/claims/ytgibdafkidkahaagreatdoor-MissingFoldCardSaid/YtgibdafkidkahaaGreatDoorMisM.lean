/- Derived: the pure model of layer 34: gaps, and their order. No program in sight. -/
import Derived.Test.YtgibdafkidkahaaGreatDoorLedM
set_option linter.unusedVariables false
set_option linter.unusedSimpArgs false
namespace Go.Proofs.YtgibdafkidkahaaGreatDoor

/-! ### fixes -/
def badFx (f : Fx) : Bool := decide (f.cls < 0) || decide (30 ≤ f.cls) || decide (f.wt < 1) || decide (9 < f.wt) || decide (f.brs.length = 0)
/-- Does a name stand twice? -/
def dupStr (l : List Str) : Bool := (List.range l.length).any fun i => (l.take i).any fun y => decide (y = l.getD i default)
def fxErr (l : List Br) (pre : List Fx) (f : Fx) : Int :=
  if badFx f = true then 8 else if f.brs.any (fun b => decide (idx l b < 0)) = true then 6 else if dupStr f.brs = true then 14 else if pre.any (fun p => decide (p.cls = f.cls)) = true then 14 else 0
def fxsErr (l : List Br) : List Fx → List Fx → Int
  | _, [] => 0
  | pre, f :: t => if fxErr l pre f ≠ 0 then fxErr l pre f else fxsErr l (pre ++ [f]) t
theorem fxsErr_at {l : List Br} : ∀ (t pre : List Fx) (k : Nat) (f : Fx), t[k]? = some f → (∀ j x, j < k → t[j]? = some x → fxErr l (pre ++ t.take j) x = 0) → fxErr l (pre ++ t.take k) f ≠ 0 → fxsErr l pre t = fxErr l (pre ++ t.take k) f
  | [], _, k, f, h, _, _ => by simp at h
  | x :: t, pre, k, f, h, hz, hne => by
    match k, h with
    | 0, h =>
      simp at h
      subst h
      simp only [List.take_zero, List.append_nil] at hne ⊢
      rw [fxsErr, if_pos hne]
    | k + 1, h =>
      have h0 := hz 0 x (by omega) rfl
      simp only [List.take_zero, List.append_nil] at h0
      rw [fxsErr, if_neg (by simp [h0])]
      have := fxsErr_at t (pre ++ [x]) k f (by simpa using h) (fun j y hj hy => by
        have := hz (j + 1) y (by omega) (by simpa using hy)
        simpa using this) (by simpa using hne)
      simpa using this
theorem fxsErr_ok {l : List Br} : ∀ (t pre : List Fx), (∀ j x, t[j]? = some x → fxErr l (pre ++ t.take j) x = 0) → fxsErr l pre t = 0
  | [], _, _ => rfl
  | x :: t, pre, hz => by
    have h0 := hz 0 x rfl
    simp only [List.take_zero, List.append_nil] at h0
    rw [fxsErr, if_neg (by simp [h0])]
    exact fxsErr_ok t (pre ++ [x]) (fun j y hy => by
      have := hz (j + 1) y (by simpa using hy)
      simpa using this)
theorem fxsErr_zero {l : List Br} : ∀ (t pre : List Fx), fxsErr l pre t = 0 → ∀ j x, t[j]? = some x → fxErr l (pre ++ t.take j) x = 0
  | [], _, _, j, x, hx => by simp at hx
  | y :: t, pre, h, j, x, hx => by
    rw [fxsErr] at h
    split at h
    · rename_i h1; exact absurd h h1
    · rename_i h1
      match j, hx with
      | 0, hx => simp at hx; subst hx; simpa using h1
      | j + 1, hx =>
        have := fxsErr_zero t (pre ++ [y]) h j x (by simpa using hx)
        simpa using this
/-- The error of a ledger and fixes. -/
def checkF (g : Lg) (fx : List Fx) : Int := if checkL g ≠ 0 then checkL g else if 30 < fx.length then 4 else fxsErr g.brs [] fx
theorem checkF_led {g : Lg} {fx : List Fx} (h : checkL g ≠ 0) : checkF g fx = checkL g := if_pos h
theorem checkF_many {g : Lg} {fx : List Fx} (h : checkL g = 0) (h1 : 30 < fx.length) : checkF g fx = 4 := by rw [checkF, if_neg (by simp [h]), if_pos h1]
theorem checkF_one {g : Lg} {fx : List Fx} (h : checkL g = 0) (h1 : ¬ 30 < fx.length) : checkF g fx = fxsErr g.brs [] fx := by rw [checkF, if_neg (by simp [h]), if_neg h1]
theorem checkF_zero {g : Lg} {fx : List Fx} (h : checkF g fx = 0) : checkL g = 0 ∧ fx.length ≤ 30 ∧ ∀ j x, fx[j]? = some x → fxErr g.brs (fx.take j) x = 0 := by
  unfold checkF at h
  split at h
  · rename_i h1; exact absurd h h1
  · rename_i h1
    split at h
    · cases h
    · rename_i h2
      refine ⟨by simpa using h1, by omega, fun j x hx => ?_⟩
      have := fxsErr_zero fx [] h j x hx
      simpa using this
theorem fxErr_zero {l : List Br} {pre : List Fx} {f : Fx} (h : fxErr l pre f = 0) : badFx f = false ∧ f.brs.any (fun b => decide (idx l b < 0)) = false ∧ dupStr f.brs = false ∧ pre.any (fun p => decide (p.cls = f.cls)) = false := by
  unfold fxErr at h
  split at h
  · cases h
  rename_i h1
  split at h
  · cases h
  rename_i h2
  split at h
  · cases h
  rename_i h3
  split at h
  · cases h
  rename_i h4
  exact ⟨by simpa using h1, by simpa using h2, by simpa using h3, by simpa using h4⟩

/-! ### gaps -/
def wanted (f : Fx) (b : Str) : Bool := f.brs.any fun x => decide (x = b)
def gapsOf (fx : List Fx) (b : Str) (inn : List Int) : List Gp := (fx.filter fun f => wanted f b && !decide (f.cls ∈ inn)).map fun f => ⟨b, f.cls, f.wt⟩
def rawL (fx : List Fx) (bs : List (Str × List Int)) : List Gp := bs.flatMap fun p => gapsOf fx p.1 p.2
def ordAt (fx : List Fx) (w c : Int) (p : Str × List Int) : List Gp := fx.filterMap fun f => if f.wt = w ∧ f.cls = c ∧ wanted f p.1 = true ∧ c ∉ p.2 then some ⟨p.1, c, w⟩ else none
def down9 : List Int := [9, 8, 7, 6, 5, 4, 3, 2, 1]
def up30 : List Int := (List.range 30).map Int.ofNat
def ordL (fx : List Fx) (bs : List (Str × List Int)) : List Gp := down9.flatMap fun w => up30.flatMap fun c => bs.flatMap fun p => ordAt fx w c p
/-- Which gap comes first. -/
def cmpG (pos : Str → Int) (x y : Gp) : Int := if y.wt - x.wt ≠ 0 then y.wt - x.wt else if x.cls - y.cls ≠ 0 then x.cls - y.cls else pos x.br - pos y.br
theorem cmpG_total {pos : Str → Int} {x y : Gp} (hp : pos x.br = pos y.br → x.br = y.br) (h1 : ¬ cmpG pos x y < 0) (h2 : ¬ cmpG pos y x < 0) : x = y := by
  unfold cmpG at h1 h2
  have hw : x.wt = y.wt := by
    rcases Int.lt_trichotomy x.wt y.wt with h | h | h
    · rw [if_pos (by omega)] at h2; omega
    · exact h
    · rw [if_pos (by omega)] at h1; omega
  rw [if_neg (by omega)] at h1 h2
  have hc : x.cls = y.cls := by
    rcases Int.lt_trichotomy x.cls y.cls with h | h | h
    · rw [if_pos (by omega)] at h1; omega
    · exact h
    · rw [if_pos (by omega)] at h2; omega
  rw [if_neg (by omega)] at h1 h2
  have hb := hp (by omega)
  cases x; cases y; simp_all
theorem cmpG_swo (pos : Str → Int) (x y z : Gp) : (¬ cmpG pos x x < 0) ∧ (cmpG pos x y < 0 → cmpG pos y z < 0 → cmpG pos x z < 0) ∧ (¬ cmpG pos x y < 0 → ¬ cmpG pos y z < 0 → ¬ cmpG pos x z < 0) := by
  unfold cmpG
  refine ⟨by split <;> (try split) <;> omega, fun h1 h2 => ?_, fun h1 h2 => ?_⟩ <;> (repeat' split at h1) <;> (repeat' split at h2) <;> (repeat' split) <;> omega
theorem mem_gapsOf {fx : List Fx} {b : Str} {inn : List Int} {x : Gp} : x ∈ gapsOf fx b inn ↔ ∃ f ∈ fx, wanted f b = true ∧ f.cls ∉ inn ∧ x = ⟨b, f.cls, f.wt⟩ := by
  unfold gapsOf
  simp only [List.mem_map, List.mem_filter, Bool.and_eq_true, Bool.not_eq_true', decide_eq_false_iff_not]
  constructor
  · rintro ⟨f, ⟨h1, h2, h3⟩, rfl⟩; exact ⟨f, h1, h2, h3, rfl⟩
  · rintro ⟨f, h1, h2, h3, rfl⟩; exact ⟨f, ⟨h1, h2, h3⟩, rfl⟩
theorem mem_rawL {fx : List Fx} {bs : List (Str × List Int)} {x : Gp} : x ∈ rawL fx bs ↔ ∃ p ∈ bs, ∃ f ∈ fx, wanted f p.1 = true ∧ f.cls ∉ p.2 ∧ x = ⟨p.1, f.cls, f.wt⟩ := by
  unfold rawL
  rw [List.mem_flatMap]
  exact ⟨fun ⟨p, h1, h2⟩ => ⟨p, h1, mem_gapsOf.1 h2⟩, fun ⟨p, h1, h2⟩ => ⟨p, h1, mem_gapsOf.2 h2⟩⟩
theorem mem_ordAt {fx : List Fx} {w c : Int} {p : Str × List Int} {x : Gp} : x ∈ ordAt fx w c p ↔ ∃ f ∈ fx, f.wt = w ∧ f.cls = c ∧ wanted f p.1 = true ∧ c ∉ p.2 ∧ x = ⟨p.1, c, w⟩ := by
  unfold ordAt
  rw [List.mem_filterMap]
  constructor
  · rintro ⟨f, h1, h2⟩
    split at h2
    · rename_i h3
      cases h2
      exact ⟨f, h1, h3.1, h3.2.1, h3.2.2.1, h3.2.2.2, rfl⟩
    · cases h2
  · rintro ⟨f, h1, h2, h3, h4, h5, rfl⟩
    exact ⟨f, h1, by rw [if_pos ⟨h2, h3, h4, h5⟩]⟩
theorem mem_down9 {w : Int} : w ∈ down9 ↔ 1 ≤ w ∧ w ≤ 9 := by
  unfold down9
  simp only [List.mem_cons, List.not_mem_nil, or_false]
  omega
theorem mem_up30 {c : Int} : c ∈ up30 ↔ 0 ≤ c ∧ c < 30 := by
  unfold up30
  simp only [List.mem_map, List.mem_range]
  constructor
  · rintro ⟨n, h, rfl⟩; simp; omega
  · rintro ⟨h1, h2⟩; exact ⟨c.toNat, by omega, by simp; omega⟩
/-- What is asked of fixes. -/
structure FxOk (fx : List Fx) : Prop where
  cls : ∀ f ∈ fx, 0 ≤ f.cls ∧ f.cls < 30
  wt : ∀ f ∈ fx, 1 ≤ f.wt ∧ f.wt ≤ 9
  one : fx.Pairwise fun f f' => f.cls ≠ f'.cls
theorem mem_ordL {fx : List Fx} (hf : FxOk fx) {bs : List (Str × List Int)} {x : Gp} : x ∈ ordL fx bs ↔ ∃ p ∈ bs, ∃ f ∈ fx, wanted f p.1 = true ∧ f.cls ∉ p.2 ∧ x = ⟨p.1, f.cls, f.wt⟩ := by
  unfold ordL
  simp only [List.mem_flatMap, mem_ordAt]
  constructor
  · rintro ⟨w, hw, c, hc, p, hp, f, h1, rfl, rfl, h4, h5, rfl⟩
    exact ⟨p, hp, f, h1, h4, h5, rfl⟩
  · rintro ⟨p, hp, f, h1, h4, h5, rfl⟩
    exact ⟨f.wt, mem_down9.2 (hf.wt f h1), f.cls, mem_up30.2 (hf.cls f h1), p, hp, f, h1, rfl, rfl, h4, h5, rfl⟩
theorem ordAt_form {fx : List Fx} {w c : Int} {p : Str × List Int} {x : Gp} (h : x ∈ ordAt fx w c p) : x = ⟨p.1, c, w⟩ := by
  obtain ⟨f, _, _, _, _, _, h⟩ := mem_ordAt.1 h
  exact h
theorem down9_pw : down9.Pairwise fun a b => b < a := by unfold down9; decide
theorem up30_pw : up30.Pairwise fun a b => a < b := by unfold up30; decide
/-- The reference's list is in order, each gap before the next ones. -/
theorem ordL_pw {fx : List Fx} (hf : FxOk fx) {bs : List (Str × List Int)} {pos : Str → Int} (hb : bs.Pairwise fun p q => pos p.1 < pos q.1) : (ordL fx bs).Pairwise fun x y => cmpG pos x y < 0 := by
  unfold ordL
  rw [List.pairwise_flatMap]
  refine ⟨fun w hw => ?_, down9_pw.imp fun {w w'} hlt x hx y hy => ?_⟩
  · rw [List.pairwise_flatMap]
    refine ⟨fun c hc => ?_, up30_pw.imp fun {c c'} hlt x hx y hy => ?_⟩
    · rw [List.pairwise_flatMap]
      refine ⟨fun p hp => ?_, hb.imp fun {p q} hlt x hx y hy => ?_⟩
      · unfold ordAt
        rw [List.pairwise_filterMap]
        refine hf.one.imp fun {f f'} hne b h1 b' h2 => ?_
        split at h1
        · split at h2
          · rename_i h3 h4; exact absurd (h3.2.1.trans h4.2.1.symm) hne
          · cases h2
        · cases h1
      · rw [ordAt_form hx, ordAt_form hy]
        simp only [cmpG]
        rw [if_neg (by omega), if_neg (by omega)]
        omega
    · obtain ⟨p, _, hx⟩ := List.mem_flatMap.1 hx
      obtain ⟨q, _, hy⟩ := List.mem_flatMap.1 hy
      rw [ordAt_form hx, ordAt_form hy]
      simp only [cmpG]
      rw [if_neg (by omega), if_pos (by omega)]
      omega
  · obtain ⟨c, _, hx⟩ := List.mem_flatMap.1 hx
    obtain ⟨c', _, hy⟩ := List.mem_flatMap.1 hy
    obtain ⟨p, _, hx⟩ := List.mem_flatMap.1 hx
    obtain ⟨q, _, hy⟩ := List.mem_flatMap.1 hy
    rw [ordAt_form hx, ordAt_form hy]
    simp only [cmpG]
    rw [if_pos (by omega)]
    omega
theorem rawL_nodup {fx : List Fx} (hf : FxOk fx) {bs : List (Str × List Int)} (hb : bs.Pairwise fun p q => p.1 ≠ q.1) : (rawL fx bs).Nodup := by
  unfold rawL List.Nodup
  rw [List.pairwise_flatMap]
  refine ⟨fun p hp => ?_, hb.imp fun {p q} hne x hx y hy => ?_⟩
  · unfold gapsOf
    rw [List.pairwise_map]
    refine (hf.one.filter _).imp fun {f f'} hne he => ?_
    simp only [Gp.mk.injEq] at he
    exact hne he.2.1
  · obtain ⟨_, _, _, _, rfl⟩ := mem_gapsOf.1 hx
    obtain ⟨_, _, _, _, rfl⟩ := mem_gapsOf.1 hy
    intro he
    simp only [Gp.mk.injEq] at he
    exact hne he.1
theorem ordL_nodup {fx : List Fx} (hf : FxOk fx) {bs : List (Str × List Int)} {pos : Str → Int} (hb : bs.Pairwise fun p q => pos p.1 < pos q.1) : (ordL fx bs).Nodup :=
  (ordL_pw hf hb).imp fun {x y} h e => by subst e; exact (cmpG_swo pos x x x).1 h
theorem raw_perm {fx : List Fx} (hf : FxOk fx) {bs : List (Str × List Int)} {pos : Str → Int} (hb : bs.Pairwise fun p q => pos p.1 < pos q.1) : (rawL fx bs).Perm (ordL fx bs) := by
  refine (List.perm_ext_iff_of_nodup (rawL_nodup hf (hb.imp fun {p q} h e => by rw [e] at h; omega)) (ordL_nodup hf hb)).2 fun x => ?_
  rw [mem_rawL, mem_ordL hf]
/-- What is sorted is the reference's list. -/
theorem sorted_ord {fx : List Fx} (hf : FxOk fx) {bs : List (Str × List Int)} {pos : Str → Int} (hb : bs.Pairwise fun p q => pos p.1 < pos q.1) (hi : ∀ p ∈ bs, ∀ q ∈ bs, pos p.1 = pos q.1 → p.1 = q.1)
    {d : List Gp} (hp : (rawL fx bs).Perm d) (hs : d.Pairwise fun x y => ¬ cmpG pos y x < 0) : d = ordL fx bs := by
  have h1 : d.Perm (ordL fx bs) := hp.symm.trans (raw_perm hf hb)
  refine List.Perm.eq_of_pairwise (le := fun x y => ¬ cmpG pos y x < 0) (fun a b ha hb' h2 h3 => ?_) hs ((ordL_pw hf hb).imp fun {x y} h h2 => (cmpG_swo pos x y x).1 ((cmpG_swo pos x y x).2.1 h h2)) h1
  refine cmpG_total (pos := pos) (fun he => ?_) h3 h2
  obtain ⟨p, hp1, _, _, _, _, rfl⟩ := mem_rawL.1 (hp.mem_iff.2 ha)
  obtain ⟨q, hq1, _, _, _, _, rfl⟩ := (mem_ordL hf).1 hb'
  exact hi p hp1 q hq1 he
end Go.Proofs.YtgibdafkidkahaaGreatDoor
