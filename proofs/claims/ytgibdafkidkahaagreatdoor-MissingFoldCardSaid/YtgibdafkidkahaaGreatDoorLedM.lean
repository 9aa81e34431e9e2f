/- Derived: the pure model of layer 29. No program in sight. -/
import Derived.Test.YtgibdafkidkahaaGreatDoorView
import Derived.Test.YtgibdafkidkahaaGreatDoorCounts
set_option linter.unusedVariables false
set_option linter.unusedSimpArgs false
namespace Go.Proofs.YtgibdafkidkahaaGreatDoor

/-- The class of a change, or -1. -/
def cls (g : Lg) (s : Str) : Int := match g.known.find? (fun k => decide (k.chg = s)) with | some k => k.cls | none => -1
theorem cls_found {g : Lg} {s : Str} {k : Nat} {x : Kn} (hx : g.known[k]? = some x) (hn : ∀ j y, j < k → g.known[j]? = some y → y.chg ≠ s) (he : x.chg = s) : cls g s = x.cls := by
  have : g.known.find? (fun k => decide (k.chg = s)) = some x := by
    rw [List.find?_eq_some_iff_getElem]
    obtain ⟨hk, rfl⟩ := List.getElem?_eq_some_iff.1 hx
    exact ⟨by simpa using he, k, hk, rfl, fun j hj => by simpa using hn j _ hj (List.getElem?_eq_getElem (by omega))⟩
  rw [cls, this]
theorem cls_none {g : Lg} {s : Str} (hn : ∀ (j : Nat) y, g.known[j]? = some y → y.chg ≠ s) : cls g s = -1 := by
  have : g.known.find? (fun k => decide (k.chg = s)) = none := by
    rw [List.find?_eq_none]
    intro x hx
    obtain ⟨j, hj, rfl⟩ := List.getElem_of_mem hx
    simpa using hn j _ (List.getElem?_eq_getElem hj)
  rw [cls, this]
theorem cls_cases (g : Lg) (s : Str) : (cls g s = -1 ∧ ∀ x ∈ g.known, x.chg ≠ s) ∨ ∃ x ∈ g.known, x.chg = s ∧ cls g s = x.cls := by
  unfold cls
  cases h : g.known.find? (fun k => decide (k.chg = s)) with
  | none => left; rw [List.find?_eq_none] at h; exact ⟨rfl, fun x hx => by simpa using h x hx⟩
  | some x => right; exact ⟨x, List.mem_of_find?_eq_some h, by simpa using List.find?_some h, rfl⟩

/-- The place of the last event of a class, or -1. -/
def lastN (g : Lg) (c : Int) (s : List Ev) : Nat × Int := s.foldl (fun p e => (p.1 + 1, if cls g e.chg = c then (p.1 : Int) else p.2)) (0, -1)
theorem lastN_snoc (g : Lg) (c : Int) (s : List Ev) (e : Ev) : lastN g c (s ++ [e]) = ((lastN g c s).1 + 1, if cls g e.chg = c then ((lastN g c s).1 : Int) else (lastN g c s).2) := by
  unfold lastN
  rw [List.foldl_append]
  rfl
theorem snoc_ind {α : Type} {p : List α → Prop} (h0 : p []) (h1 : ∀ l x, p l → p (l ++ [x])) (l : List α) : p l := by
  rw [← List.reverse_reverse l]
  induction l.reverse with
  | nil => exact h0
  | cons x xs ih => rw [List.reverse_cons]; exact h1 _ _ ih
theorem lastN_len (g : Lg) (c : Int) (s : List Ev) : (lastN g c s).1 = s.length := by
  induction s using snoc_ind with
  | h0 => rfl
  | h1 s e ih => rw [lastN_snoc, ih]; simp
def lastP (g : Lg) (s : List Ev) (c : Int) : Int := (lastN g c s).2
theorem lastP_nil (g : Lg) (c : Int) : lastP g [] c = -1 := rfl
theorem lastP_snoc (g : Lg) (s : List Ev) (e : Ev) (c : Int) : lastP g (s ++ [e]) c = if cls g e.chg = c then (s.length : Int) else lastP g s c := by
  unfold lastP
  rw [lastN_snoc, lastN_len]
theorem lastP_lt (g : Lg) (s : List Ev) (c : Int) : -1 ≤ lastP g s c ∧ lastP g s c < s.length := by
  induction s using snoc_ind with
  | h0 => rw [lastP_nil]; simp
  | h1 s e ih => rw [lastP_snoc, List.length_append, List.length_singleton]; split <;> omega
/-- Is a class in effect behind some events? -/
def inP (g : Lg) (s : List Ev) (c : Int) : Bool := s.foldl (fun b e => if cls g e.chg = c then decide (e.kind ≠ 3) else b) false
theorem inP_nil (g : Lg) (c : Int) : inP g [] c = false := rfl
theorem inP_snoc (g : Lg) (s : List Ev) (e : Ev) (c : Int) : inP g (s ++ [e]) c = if cls g e.chg = c then decide (e.kind ≠ 3) else inP g s c := by
  unfold inP
  rw [List.foldl_append]
  rfl
theorem inP_last (g : Lg) (s : List Ev) (c : Int) : inP g s c = (decide (0 ≤ lastP g s c) && decide ((s.getD (lastP g s c).toNat default).kind ≠ 3)) := by
  induction s using snoc_ind with
  | h0 => simp [inP_nil, lastP_nil]
  | h1 s e ih =>
    rw [inP_snoc, lastP_snoc]
    split
    · simp
    · have h := lastP_lt g s c
      rw [ih]
      rcases Int.lt_or_le (lastP g s c) 0 with h1 | h1
      · simp [show ¬ 0 ≤ lastP g s c by omega]
      · rw [List.getD_eq_getElem?_getD, List.getD_eq_getElem?_getD, List.getElem?_append_left (by omega)]
theorem lastP_take {g : Lg} {s : List Ev} {c : Int} {k : Nat} {e : Ev} (h : s[k]? = some e) : lastP g (s.take (k + 1)) c = if cls g e.chg = c then (k : Int) else lastP g (s.take k) c := by
  have hk := (List.getElem?_eq_some_iff.1 h).1
  rw [List.take_add_one, h]
  simp only [Option.toList]
  rw [lastP_snoc, List.length_take, Nat.min_eq_left (by omega)]

/-- The error of an event behind others. -/
def allowS (seen inn : Bool) (kind : Int) : Int :=
  if kind < 1 ∨ 4 < kind then 2 else if inn = true ∧ kind ≠ 3 then 30 else if kind = 1 ∧ seen = true then 14 else if (kind = 3 ∧ inn = false) ∨ (kind = 4 ∧ seen = false) then 36 else 0
def seenP (g : Lg) (s : List Ev) (c : Int) : Bool := decide (0 ≤ lastP g s c)
def allowed (g : Lg) (s : List Ev) (e : Ev) : Int := allowS (seenP g s (cls g e.chg)) (inP g s (cls g e.chg)) e.kind
theorem seenP_snoc (g : Lg) (s : List Ev) (e : Ev) (c : Int) : seenP g (s ++ [e]) c = if cls g e.chg = c then true else seenP g s c := by
  unfold seenP
  rw [lastP_snoc]
  split <;> simp

/-- The event of a mark. -/
def evAt (g : Lg) (m : Mk) : Ev := (g.evs.getD m.br.toNat []).getD m.ev.toNat default
def MkOk (g : Lg) (m : Mk) : Prop := 0 ≤ m.br ∧ m.br < g.evs.length ∧ 0 ≤ m.ev ∧ m.ev < (g.evs.getD m.br.toNat []).length
def evsOf (g : Lg) (v : List Mk) : List Ev := v.map (evAt g)
theorem MkOk.get {g : Lg} {m : Mk} (h : MkOk g m) : ∃ (i j : Nat) (own : List Ev) (e : Ev), m.br = i ∧ m.ev = j ∧ g.evs[i]? = some own ∧ own[j]? = some e ∧ evAt g m = e := by
  obtain ⟨h0, h1, h2, h3⟩ := h
  obtain ⟨i, hi⟩ : ∃ i : Nat, m.br = i := ⟨m.br.toNat, by omega⟩
  obtain ⟨j, hj⟩ : ∃ j : Nat, m.ev = j := ⟨m.ev.toNat, by omega⟩
  rw [hi] at h1 h3
  rw [hj] at h3
  have hx : g.evs[i]? = some g.evs[i] := List.getElem?_eq_getElem (by omega)
  rw [Int.toNat_natCast, List.getD_eq_getElem?_getD, hx, Option.getD_some] at h3
  have hy : g.evs[i][j]? = some g.evs[i][j] := List.getElem?_eq_getElem (by omega)
  refine ⟨i, j, _, _, hi, hj, hx, hy, ?_⟩
  unfold evAt
  have e1 : g.evs.getD i [] = g.evs[i] := by rw [List.getD_eq_getElem?_getD, hx]; rfl
  rw [hi, hj, Int.toNat_natCast, Int.toNat_natCast, e1, List.getD_eq_getElem?_getD, hy]
  rfl
/-- Are own events of a branch as they should be, behind others? -/
def okEvs (g : Lg) : List Ev → List Ev → Bool
  | _, [] => true
  | s, e :: own => decide (0 ≤ cls g e.chg) && decide (allowed g s e = 0) && okEvs g (s ++ [e]) own
theorem okEvs_iff (g : Lg) : ∀ (own s : List Ev), okEvs g s own = true ↔ ∀ (k : Nat) (e : Ev), own[k]? = some e → 0 ≤ cls g e.chg ∧ allowed g (s ++ own.take k) e = 0
  | [], s => by simp [okEvs]
  | e :: own, s => by
    rw [okEvs, Bool.and_eq_true, Bool.and_eq_true, decide_eq_true_eq, decide_eq_true_eq, okEvs_iff g own (s ++ [e])]
    constructor
    · rintro ⟨⟨h1, h2⟩, h3⟩ k x hx
      match k, hx with
      | 0, hx => simp at hx; subst hx; exact ⟨h1, by simpa using h2⟩
      | k + 1, hx =>
        have := h3 k x (by simpa using hx)
        simpa using this
    · intro h
      refine ⟨by simpa using h 0 e rfl, fun k x hx => ?_⟩
      have := h (k + 1) x (by simpa using hx)
      simpa using this
/-- The events with which a branch begins. -/
def baseEvs (g : Lg) (i : Nat) : List Ev := evsOf g (vpre g.brs (cnts g) i)
def okBr (g : Lg) (i : Nat) : Bool := okEvs g (baseEvs g i) (g.evs.getD i [])
def badKn (x : Kn) : Bool := !nameOk x.chg || decide (x.cls < 0) || decide (30 ≤ x.cls)
/-- Does a change stand twice? -/
def dupKn (l : List Kn) : Bool := (List.range l.length).any fun i => (l.take i).any fun y => decide (y.chg = (l.getD i default).chg)
def checkL (g : Lg) : Int :=
  if 30 < g.known.length then 4 else if dupKn g.known then 14 else if g.known.any badKn then 8 else if checkB g.brs ≠ 0 then checkB g.brs else
  if g.evs.length ≠ g.brs.length then 2 else if g.evs.any (fun s => decide (40 < s.length)) then 4 else if fitsB g.brs (cnts g) ≠ 0 then fitsB g.brs (cnts g) else
  if (List.range g.brs.length).all (okBr g) then 0 else 8

theorem cnts_get {g : Lg} {i : Nat} {own : List Ev} (h : g.evs[i]? = some own) : (cnts g)[i]? = some (own.length : Int) := by simp [cnts, h]
theorem cnts_getD {g : Lg} {i : Nat} {own : List Ev} (h : g.evs[i]? = some own) : ((cnts g).getD i 0).toNat = own.length := by rw [List.getD_eq_getElem?_getD, cnts_get h]; rfl
theorem evs_own {g : Lg} {i : Nat} {own : List Ev} (h : g.evs[i]? = some own) : evsOf g (ownMks i own.length) = own := by
  unfold evsOf ownMks
  rw [List.map_map]
  apply List.ext_getElem?
  intro k
  rw [List.getElem?_map]
  rcases Nat.lt_or_ge k own.length with hk | hk
  · rw [List.getElem?_range hk, List.getElem?_eq_getElem hk]
    simp only [Option.map_some, Function.comp, evAt, Int.toNat_natCast]
    rw [List.getD_eq_getElem?_getD (l := g.evs), h, Option.getD_some, List.getD_eq_getElem?_getD, List.getElem?_eq_getElem hk]
    rfl
  · rw [List.getElem?_eq_none (by simpa using hk), List.getElem?_eq_none hk]; rfl
theorem evs_vw {g : Lg} {i : Nat} {own : List Ev} (h : g.evs[i]? = some own) : evsOf g (vw g.brs (cnts g) i) = baseEvs g i ++ own := by
  rw [vw_eq, cnts_getD h]
  unfold evsOf
  rw [List.map_append]
  have := evs_own h
  unfold evsOf at this
  rw [this]
  rfl
theorem vw_ok {g : Lg} (hck : checkB g.brs = 0) (hl : g.evs.length = g.brs.length) : ∀ i, i < g.brs.length → ∀ m ∈ vw g.brs (cnts g) i, MkOk g m := by
  intro i
  induction i using Nat.strongRecOn with
  | _ i ih =>
    intro hi m hm
    have hx : g.brs[i]? = some g.brs[i] := List.getElem?_eq_getElem hi
    have hown : g.evs[i]? = some (g.evs[i]'(by omega)) := List.getElem?_eq_getElem (by omega)
    generalize g.brs[i] = x at hx
    generalize g.evs[i]'(by omega) = own at hown
    rw [vw_eq, cnts_getD hown] at hm
    rcases List.mem_append.1 hm with hm | hm
    · rcases (show i = 0 ∨ 0 < i by omega) with h0 | h0
      · unfold vpre at hm; rw [if_pos h0] at hm; simp at hm
      · obtain ⟨ha, hb⟩ := idx_from hck hx h0
        obtain ⟨j, hj⟩ : ∃ j : Nat, idx g.brs x.frm = j := ⟨(idx g.brs x.frm).toNat, by omega⟩
        rw [vpre_stem hck hx h0 hj (by omega)] at hm
        exact ih j (by omega) (by omega) m (List.mem_of_mem_take hm)
    · unfold ownMks at hm
      rw [List.mem_map] at hm
      obtain ⟨k, hk, rfl⟩ := hm
      rw [List.mem_range] at hk
      refine ⟨Int.natCast_nonneg _, by simp only []; omega, Int.natCast_nonneg _, ?_⟩
      simp only [Int.toNat_natCast]
      rw [List.getD_eq_getElem?_getD, hown, Option.getD_some]
      omega
theorem vpre_ok {g : Lg} (hck : checkB g.brs = 0) (hl : g.evs.length = g.brs.length) {i : Nat} (hi : i < g.brs.length) : ∀ m ∈ vpre g.brs (cnts g) i, MkOk g m := by
  intro m hm
  exact vw_ok hck hl i hi m (by rw [vw_eq]; exact List.mem_append_left _ hm)

/-! the error of a ledger, step by step -/
section
variable {g : Lg}
/-- No change stands twice. -/
def NoDup (l : List Kn) : Prop := ∀ (i k : Nat) (x y : Kn), k < i → l[i]? = some x → l[k]? = some y → y.chg ≠ x.chg
theorem dupKn_f {l : List Kn} (h : NoDup l) : dupKn l = false := by
  unfold dupKn
  rw [List.any_eq_false]
  intro i hi
  rw [List.mem_range] at hi
  rw [Bool.not_eq_true, List.any_eq_false]
  intro y hy
  obtain ⟨k, hk⟩ := List.getElem?_of_mem hy
  rw [List.getElem?_take] at hk
  split at hk
  · rename_i hki
    have hx : l[i]? = some l[i] := List.getElem?_eq_getElem hi
    rw [List.getD_eq_getElem?_getD, hx, Option.getD_some, decide_eq_true_eq]
    exact h i k _ _ hki hx hk
  · cases hk
theorem dupKn_t {l : List Kn} {i k : Nat} {x y : Kn} (hki : k < i) (hx : l[i]? = some x) (hy : l[k]? = some y) (h : y.chg = x.chg) : dupKn l = true := by
  unfold dupKn
  rw [List.any_eq_true]
  refine ⟨i, List.mem_range.2 (List.getElem?_eq_some_iff.1 hx).1, ?_⟩
  rw [List.any_eq_true]
  refine ⟨y, List.mem_of_getElem? (by rw [List.getElem?_take, if_pos hki]; exact hy), ?_⟩
  rw [List.getD_eq_getElem?_getD, hx, Option.getD_some, decide_eq_true_eq]
  exact h
theorem noDup_of {l : List Kn} (h : dupKn l = false) : NoDup l := by
  intro i k x y hki hx hy he
  rw [dupKn_t hki hx hy he] at h
  cases h
theorem checkL_many (h : 30 < g.known.length) : checkL g = 4 := if_pos h
theorem checkL_dup (h0 : ¬ 30 < g.known.length) (h : dupKn g.known = true) : checkL g = 14 := by rw [checkL, if_neg h0, if_pos h]
/-- What the first steps have shown. -/
def S1 (g : Lg) : Prop := ¬ 30 < g.known.length ∧ dupKn g.known = false
theorem checkL_bad (h0 : S1 g) (h : g.known.any badKn = true) : checkL g = 8 := by rw [checkL, if_neg h0.1, if_neg (by simp [h0.2]), if_pos h]
def S2 (g : Lg) : Prop := S1 g ∧ g.known.any badKn = false
theorem checkL_br (h0 : S2 g) (h : checkB g.brs ≠ 0) : checkL g = checkB g.brs := by rw [checkL, if_neg h0.1.1, if_neg (by simp [h0.1.2]), if_neg (by simp [h0.2]), if_pos h]
def S3 (g : Lg) : Prop := S2 g ∧ checkB g.brs = 0
theorem checkL_len (h0 : S3 g) (h : g.evs.length ≠ g.brs.length) : checkL g = 2 := by rw [checkL, if_neg h0.1.1.1, if_neg (by simp [h0.1.1.2]), if_neg (by simp [h0.1.2]), if_neg (by simp [h0.2]), if_pos h]
def S4 (g : Lg) : Prop := S3 g ∧ g.evs.length = g.brs.length
theorem checkL_evs (h0 : S4 g) (h : g.evs.any (fun s => decide (40 < s.length)) = true) : checkL g = 4 := by
  rw [checkL, if_neg h0.1.1.1.1, if_neg (by simp [h0.1.1.1.2]), if_neg (by simp [h0.1.1.2]), if_neg (by simp [h0.1.2]), if_neg (by simp [h0.2]), if_pos h]
def S5 (g : Lg) : Prop := S4 g ∧ g.evs.any (fun s => decide (40 < s.length)) = false
theorem checkL_fits (h0 : S5 g) (h : fitsB g.brs (cnts g) ≠ 0) : checkL g = fitsB g.brs (cnts g) := by
  rw [checkL, if_neg h0.1.1.1.1.1, if_neg (by simp [h0.1.1.1.1.2]), if_neg (by simp [h0.1.1.1.2]), if_neg (by simp [h0.1.1.2]), if_neg (by simp [h0.1.2]), if_neg (by simp [h0.2]), if_pos h]
def S6 (g : Lg) : Prop := S5 g ∧ fitsB g.brs (cnts g) = 0
theorem checkL_last (h0 : S6 g) : checkL g = if (List.range g.brs.length).all (okBr g) then 0 else 8 := by
  rw [checkL, if_neg h0.1.1.1.1.1.1, if_neg (by simp [h0.1.1.1.1.1.2]), if_neg (by simp [h0.1.1.1.1.2]), if_neg (by simp [h0.1.1.1.2]), if_neg (by simp [h0.1.1.2]), if_neg (by simp [h0.1.2]), if_neg (by simp [h0.2])]
theorem checkL_ev (h0 : S6 g) {i : Nat} (hi : i < g.brs.length) (h : okBr g i = false) : checkL g = 8 := by
  rw [checkL_last h0, if_neg]
  intro ha
  rw [List.all_eq_true] at ha
  have := ha i (List.mem_range.2 hi)
  rw [h] at this
  cases this
theorem checkL_ok (h0 : S6 g) (h : ∀ i, i < g.brs.length → okBr g i = true) : checkL g = 0 := by
  rw [checkL_last h0, if_pos]
  rw [List.all_eq_true]
  intro i hi
  exact h i (List.mem_range.1 hi)
theorem checkL_zero (h : checkL g = 0) : S6 g ∧ ∀ i, i < g.brs.length → okBr g i = true := by
  have h6 : S6 g := by
    unfold checkL at h
    split at h
    · cases h
    rename_i h1
    split at h
    · cases h
    rename_i h2
    split at h
    · cases h
    rename_i h3
    split at h
    · rename_i h4; exact absurd h h4
    rename_i h4
    split at h
    · cases h
    rename_i h5
    split at h
    · cases h
    rename_i h6
    split at h
    · rename_i h7; exact absurd h h7
    rename_i h7
    exact ⟨⟨⟨⟨⟨⟨h1, by simpa using h2⟩, by simpa using h3⟩, by simpa using h4⟩, by simpa using h5⟩, by simpa using h6⟩, by simpa using h7⟩
  refine ⟨h6, ?_⟩
  rw [checkL_last h6] at h
  split at h
  · rename_i ha
    rw [List.all_eq_true] at ha
    exact fun i hi => ha i (List.mem_range.2 hi)
  · cases h
end
end Go.Proofs.YtgibdafkidkahaaGreatDoor
