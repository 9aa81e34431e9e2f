/- Derived: the pure model: what the layers 26, 29 and 34 compute, over lists. No program in sight. -/
import Derived.Laws.Strings
namespace Go.Proofs.YtgibdafkidkahaaGreatDoor
open Go

abbrev Str := ByteArray
instance : Inhabited ByteArray := ⟨ByteArray.empty⟩

structure Br where
  name : Str
  frm : Str
  at_ : Int
  deriving DecidableEq, Inhabited
structure Mk where
  br : Int
  ev : Int
  deriving DecidableEq, Inhabited
structure Kn where
  chg : Str
  cls : Int
  deriving DecidableEq, Inhabited
structure Ev where
  kind : Int
  chg : Str
  deriving DecidableEq, Inhabited
structure Lg where
  known : List Kn
  brs : List Br
  evs : List (List Ev)
  deriving DecidableEq, Inhabited
structure Fx where
  cls : Int
  wt : Int
  brs : List Str
  deriving DecidableEq, Inhabited
structure Gp where
  br : Str
  cls : Int
  wt : Int
  deriving DecidableEq, Inhabited

theorem ba_ext {a b : Str} (h : a.toList = b.toList) : a = b := by
  rw [ByteArray.toList_eq, ByteArray.toList_eq] at h
  cases a; cases b
  simpa [Array.toList_inj] using h
theorem seq_t {a b : Str} (h : a = b) : (a.toList == b.toList) = true := by rw [h]; exact beq_self_eq_true _
theorem seq_f {a b : Str} (h : a ≠ b) : (a.toList == b.toList) = false := by
  rw [beq_eq_false_iff_ne]
  exact fun e => h (ba_ext e)
theorem seq_d (a b : Str) : (a.toList == b.toList) = decide (a = b) := by
  by_cases h : a = b
  · rw [seq_t h, decide_eq_true h]
  · rw [seq_f h, decide_eq_false h]

/-! ### layer 26 -/
/-- The place of the first element that a test lets by, or -1. -/
def idxP {α : Type} (p : α → Bool) (l : List α) : Int := match l.findIdx? p with | some i => i | none => -1
theorem idxP_found {α : Type} {p : α → Bool} {l : List α} {k : Nat} {x : α} (hx : l[k]? = some x) (hn : ∀ j y, j < k → l[j]? = some y → p y = false) (he : p x = true) : idxP p l = k := by
  have : l.findIdx? p = some k := by
    rw [List.findIdx?_eq_some_iff_getElem]
    obtain ⟨hk, rfl⟩ := List.getElem?_eq_some_iff.1 hx
    exact ⟨hk, he, fun j hj => by simpa using hn j _ hj (List.getElem?_eq_getElem (by omega))⟩
  rw [idxP, this]
theorem idxP_none {α : Type} {p : α → Bool} {l : List α} (hn : ∀ (j : Nat) y, l[j]? = some y → p y = false) : idxP p l = -1 := by
  have : l.findIdx? p = none := by
    rw [List.findIdx?_eq_none_iff]
    intro x hx
    obtain ⟨j, hj, rfl⟩ := List.getElem_of_mem hx
    simpa using hn j _ (List.getElem?_eq_getElem hj)
  rw [idxP, this]
theorem idxP_cases {α : Type} (p : α → Bool) (l : List α) : (idxP p l = -1 ∧ ∀ x ∈ l, p x = false) ∨ (∃ (k : Nat) (x : α), idxP p l = k ∧ l[k]? = some x ∧ p x = true ∧ ∀ j y, j < k → l[j]? = some y → p y = false) := by
  unfold idxP
  cases h : l.findIdx? p with
  | none => left; rw [List.findIdx?_eq_none_iff] at h; exact ⟨rfl, fun x hx => by simpa using h x hx⟩
  | some k =>
    right
    rw [List.findIdx?_eq_some_iff_getElem] at h
    obtain ⟨hk, he, hn⟩ := h
    refine ⟨k, l[k], rfl, List.getElem?_eq_getElem hk, he, fun j y hj hy => ?_⟩
    obtain ⟨hj', rfl⟩ := List.getElem?_eq_some_iff.1 hy
    simpa using hn j hj
theorem idxP_neg {α : Type} {p : α → Bool} {l : List α} : idxP p l < 0 ↔ l.any p = false := by
  rcases idxP_cases p l with ⟨h, hn⟩ | ⟨k, x, h, hx, he, _⟩
  · rw [h]; simp; exact fun x hx => by simpa using hn x hx
  · rw [h]
    have hm : x ∈ l := List.mem_of_getElem? hx
    constructor
    · intro h; omega
    · intro h; rw [List.any_eq_false] at h; exact absurd he (h x hm)
def idx (l : List Br) (nm : Str) : Int := idxP (fun b => decide (b.name = nm)) l
theorem idx_found {l : List Br} {nm : Str} {k : Nat} {x : Br} (hx : l[k]? = some x) (hn : ∀ j y, j < k → l[j]? = some y → y.name ≠ nm) (he : x.name = nm) : idx l nm = k :=
  idxP_found hx (fun j y hj hy => by simpa using hn j y hj hy) (by simpa using he)
theorem idx_none {l : List Br} {nm : Str} (hn : ∀ (j : Nat) y, l[j]? = some y → y.name ≠ nm) : idx l nm = -1 :=
  idxP_none fun j y hy => by simpa using hn j y hy

/-- A byte of a name. -/
def okByte (n : Int) : Bool := decide (n = 45) || (decide (97 ≤ n) && decide (n ≤ 122)) || (decide (48 ≤ n) && decide (n ≤ 57))
def byteAt (s : Str) (k : Nat) : Int := if h : k < s.size then ((s[k]'h).toNat : Int) else 0
theorem byteAt_eq {s : Str} {k : Nat} (h : k < s.size) : ((s[k]'h).toNat : Int) = byteAt s k := by rw [byteAt, dif_pos h]
def nameOk (s : Str) : Bool := decide (1 ≤ s.size) && decide (s.size ≤ 40) && (decide (97 ≤ byteAt s 0) && decide (byteAt s 0 ≤ 122)) && (List.range s.size).all fun k => okByte (byteAt s k)
theorem nameOk_iff (s : Str) : nameOk s = true ↔ 1 ≤ s.size ∧ s.size ≤ 40 ∧ 97 ≤ byteAt s 0 ∧ byteAt s 0 ≤ 122 ∧ ∀ k, k < s.size → okByte (byteAt s k) = true := by
  unfold nameOk
  simp only [Bool.and_eq_true, decide_eq_true_eq, List.all_eq_true, List.mem_range]
  constructor
  · rintro ⟨⟨⟨a, b⟩, c, d⟩, e⟩; exact ⟨a, b, c, d, e⟩
  · rintro ⟨a, b, c, d, e⟩; exact ⟨⟨⟨a, b⟩, c, d⟩, e⟩

theorem idx_le {l : List Br} {k : Nat} {x : Br} (hx : l[k]? = some x) : 0 ≤ idx l x.name ∧ idx l x.name ≤ k := by
  rcases idxP_cases (fun b : Br => decide (b.name = x.name)) l with ⟨_, hn⟩ | ⟨i, y, h, _, _, hn⟩
  · have := hn x (List.mem_of_getElem? hx); simp at this
  · unfold idx
    rw [h]
    refine ⟨by omega, ?_⟩
    rcases Nat.lt_or_ge k i with h1 | h1
    · have := hn k x h1 hx; simp at this
    · omega
theorem idx_at {l : List Br} {nm : Str} (h : 0 ≤ idx l nm) : ∃ (k : Nat) (x : Br), idx l nm = k ∧ l[k]? = some x ∧ x.name = nm := by
  rcases idxP_cases (fun b : Br => decide (b.name = nm)) l with ⟨h1, _⟩ | ⟨k, x, h1, h2, h3, _⟩
  · unfold idx at h; rw [h1] at h; omega
  · exact ⟨k, x, h1, h2, by simpa using h3⟩
theorem idx_lt (l : List Br) (nm : Str) : idx l nm < l.length ∧ -1 ≤ idx l nm := by
  rcases idxP_cases (fun b : Br => decide (b.name = nm)) l with ⟨h1, _⟩ | ⟨k, x, h1, h2, _, _⟩
  · unfold idx; rw [h1]; omega
  · unfold idx; rw [h1]; have := (List.getElem?_eq_some_iff.1 h2).1; omega

/-- Is a branch of a table not as it should be? -/
def badAt (l : List Br) (i : Nat) (x : Br) : Bool :=
  !nameOk x.name || decide (x.at_ < 0) || decide (320 < x.at_) || (decide (i = 0) && (decide (x.frm ≠ ByteArray.empty) || decide (x.at_ ≠ 0))) || (decide (0 < i) && decide (idx (l.take i) x.frm < 0))
def allAt {α : Type} (p : Nat → α → Bool) (l : List α) : Bool := (List.range l.length).all fun i => match l[i]? with | some x => p i x | none => true
theorem allAt_iff {α : Type} (p : Nat → α → Bool) (l : List α) : allAt p l = true ↔ ∀ i x, l[i]? = some x → p i x = true := by
  unfold allAt
  simp only [List.all_eq_true, List.mem_range]
  constructor
  · intro h i x hx
    have := h i (List.getElem?_eq_some_iff.1 hx).1
    rw [hx] at this
    exact this
  · intro h i hi
    have hx := List.getElem?_eq_getElem hi
    rw [hx]
    exact h i _ hx
def checkB (l : List Br) : Int :=
  if 8 < l.length then 4 else if allAt (fun i x => decide (idx l x.name = i)) l = false then 14 else if l = [] ∨ allAt (fun i x => !badAt l i x) l = false then 8 else 0
/-- No name stands twice. -/
def Uniq (l : List Br) : Prop := ∀ (i : Nat) (x : Br), l[i]? = some x → idx l x.name = i
theorem checkB_many {l : List Br} (h : 8 < l.length) : checkB l = 4 := if_pos h
theorem allAt_f {α : Type} {p : Nat → α → Bool} {l : List α} {i : Nat} {x : α} (hx : l[i]? = some x) (h : p i x = false) : allAt p l = false := by
  rw [Bool.eq_false_iff]
  intro ha
  have := (allAt_iff p l).1 ha i x hx
  rw [h] at this
  cases this
theorem checkB_twice {l : List Br} (h : ¬ 8 < l.length) {i : Nat} {x : Br} (hx : l[i]? = some x) (hi : idx l x.name ≠ i) : checkB l = 14 := by
  unfold checkB
  rw [if_neg h, if_pos (allAt_f hx (by simpa using hi))]
theorem checkB_bad {l : List Br} (h : ¬ 8 < l.length) (hi : Uniq l) {i : Nat} {x : Br} (hx : l[i]? = some x) (hb : badAt l i x = true) : checkB l = 8 := by
  unfold checkB
  rw [if_neg h, if_neg (by rw [(allAt_iff _ _).2 (fun i x hx => by simpa using hi i x hx)]; simp), if_pos (Or.inr (allAt_f hx (by simp [hb])))]
theorem checkB_nil : checkB [] = 8 := rfl
theorem checkB_ok {l : List Br} (h : ¬ 8 < l.length) (hi : Uniq l) (h0 : l ≠ []) (hb : ∀ (i : Nat) (x : Br), l[i]? = some x → badAt l i x = false) : checkB l = 0 := by
  unfold checkB
  rw [if_neg h, if_neg (by rw [(allAt_iff _ _).2 (fun i x hx => by simpa using hi i x hx)]; simp), if_neg]
  rintro (h1 | h1)
  · exact h0 h1
  · rw [(allAt_iff _ _).2 (fun i x hx => by simpa using hb i x hx)] at h1
    cases h1
theorem checkB_zero {l : List Br} (h : checkB l = 0) : l.length ≤ 8 ∧ Uniq l ∧ l ≠ [] ∧ ∀ (i : Nat) (x : Br), l[i]? = some x → badAt l i x = false := by
  unfold checkB at h
  split at h
  · cases h
  · rename_i h1
    split at h
    · cases h
    · rename_i h2
      split at h
      · cases h
      · rename_i h3
        rw [Bool.not_eq_false, allAt_iff] at h2
        have h4 : l ≠ [] := fun e => h3 (Or.inl e)
        have h5 : allAt (fun i x => !badAt l i x) l = true := by
          cases h6 : allAt (fun i x => !badAt l i x) l with
          | true => rfl
          | false => exact absurd (Or.inr h6) h3
        rw [allAt_iff] at h5
        exact ⟨by omega, fun i x hx => by simpa using h2 i x hx, h4, fun i x hx => by simpa using h5 i x hx⟩

theorem idx_take {l : List Br} {nm : Str} {i : Nat} (h : 0 ≤ idx (l.take i) nm) : idx l nm = idx (l.take i) nm ∧ idx l nm < i := by
  rcases idxP_cases (fun b : Br => decide (b.name = nm)) (l.take i) with ⟨h1, _⟩ | ⟨k, x, h1, h2, h3, h4⟩
  · unfold idx at h; rw [h1] at h; omega
  · have hk : k < i := by have := (List.getElem?_eq_some_iff.1 h2).1; rw [List.length_take] at this; omega
    rw [List.getElem?_take, if_pos hk] at h2
    have h5 : idx l nm = k := idx_found h2 (fun j y hj hy => by
      have := h4 j y hj (by rw [List.getElem?_take, if_pos (by omega)]; exact hy)
      simpa using this) (by simpa using h3)
    refine ⟨by rw [h5]; unfold idx; rw [h1], by omega⟩
theorem idx_from {l : List Br} (h : checkB l = 0) {i : Nat} {x : Br} (hx : l[i]? = some x) (hi : 0 < i) : 0 ≤ idx l x.frm ∧ idx l x.frm < i := by
  have hb := (checkB_zero h).2.2.2 i x hx
  have h1 : ¬ idx (l.take i) x.frm < 0 := by
    intro h2
    simp [badAt, h2, hi] at hb
  obtain ⟨h2, h3⟩ := idx_take (l := l) (nm := x.frm) (i := i) (by omega)
  exact ⟨by omega, h3⟩
theorem at_range {l : List Br} (h : checkB l = 0) {i : Nat} {x : Br} (hx : l[i]? = some x) : 0 ≤ x.at_ ∧ x.at_ ≤ 320 ∧ (i = 0 → x.at_ = 0 ∧ x.frm = ByteArray.empty) := by
  have hb := (checkB_zero h).2.2.2 i x hx
  simp [badAt] at hb
  refine ⟨by omega, by omega, fun hi => ?_⟩
  have := hb.1.2 hi
  exact ⟨this.2, this.1⟩
/-- A branch's own marks. -/
def ownMks (i n : Nat) : List Mk := (List.range n).map fun (k : Nat) => (⟨(i : Int), (k : Int)⟩ : Mk)
theorem ownMks_succ (i n : Nat) : ownMks i (n + 1) = ownMks i n ++ [⟨(i : Int), (n : Int)⟩] := by simp [ownMks, List.range_succ]
theorem ownMks_length (i n : Nat) : (ownMks i n).length = n := by simp [ownMks]
/-- The views of the first branches of a table. -/
def stem (l : List Br) (out : List (List Mk)) (i : Nat) : List Mk := out.getD (idx l (l.getD i default).frm).toNat []
def vwStep (l : List Br) (cnt : List Int) (out : List (List Mk)) (i : Nat) : List Mk :=
  (if i = 0 then [] else (stem l out i).take (l.getD i default).at_.toNat) ++ ownMks i (cnt.getD i 0).toNat
def vws (l : List Br) (cnt : List Int) : Nat → List (List Mk)
  | 0 => []
  | i + 1 => vws l cnt i ++ [vwStep l cnt (vws l cnt i) i]
def vok (l : List Br) (cnt : List Int) (i : Nat) : Bool := decide (i = 0) || decide ((l.getD i default).at_ ≤ (stem l (vws l cnt i) i).length)
def fitsOk (l : List Br) (cnt : List Int) : Bool := (List.range l.length).all (vok l cnt)
theorem vws_length (l : List Br) (cnt : List Int) (i : Nat) : (vws l cnt i).length = i := by
  induction i with
  | zero => rfl
  | succ i ih => simp [vws, ih]
theorem fitsOk_iff (l : List Br) (cnt : List Int) : fitsOk l cnt = true ↔ ∀ i, i < l.length → vok l cnt i = true := by simp [fitsOk]
theorem fitsOk_f {l : List Br} {cnt : List Int} {i : Nat} (hi : i < l.length) (h : vok l cnt i = false) : fitsOk l cnt = false := by
  rw [Bool.eq_false_iff]
  intro hf
  have := (fitsOk_iff l cnt).1 hf i hi
  rw [h] at this
  cases this
theorem vws_get {l : List Br} {cnt : List Int} {n j : Nat} (h : j < n) : (vws l cnt n)[j]? = some (vwStep l cnt (vws l cnt j) j) := by
  induction n with
  | zero => omega
  | succ n ih =>
    rcases Nat.lt_succ_iff_lt_or_eq.1 h with h1 | rfl
    · rw [vws, List.getElem?_append_left (by rw [vws_length]; exact h1)]; exact ih h1
    · rw [vws, List.getElem?_append_right (by rw [vws_length]; omega), vws_length, Nat.sub_self]; rfl
/-- The view of a branch. -/
def viewOf (l : List Br) (cnt : List Int) (i : Nat) : List Mk := (vws l cnt l.length).getD i []
theorem vwStep_length {l : List Br} (hl : checkB l = 0) {cnt : List Int} (hc : ∀ (i : Nat) (y : Int), cnt[i]? = some y → 0 ≤ y ∧ y ≤ 40) {i : Nat} {out : List (List Mk)} : (vwStep l cnt out i).length ≤ 360 := by
  unfold vwStep
  rw [List.length_append, ownMks_length]
  have h1 : (cnt.getD i 0).toNat ≤ 40 := by
    rw [List.getD_eq_getElem?_getD]
    cases h : cnt[i]? with
    | none => simp
    | some y => have := hc i y h; simp; omega
  have h2 : (if i = 0 then [] else (stem l out i).take (l.getD i default).at_.toNat).length ≤ 320 := by
    split
    · simp
    · rw [List.length_take]
      have : (l.getD i default).at_.toNat ≤ 320 := by
        rw [List.getD_eq_getElem?_getD]
        cases h : l[i]? with
        | none => simp [default, Inhabited.default, instInhabitedBr.default]
        | some x => have := at_range hl h; simp; omega
      omega
  omega
end Go.Proofs.YtgibdafkidkahaaGreatDoor
