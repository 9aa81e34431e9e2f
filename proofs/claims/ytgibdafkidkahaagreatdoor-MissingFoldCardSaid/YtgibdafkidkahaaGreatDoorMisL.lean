/- Derived: the pure model of layer 34: what its functions return. No program in sight. -/
import Derived.Test.YtgibdafkidkahaaGreatDoorMisM
import Derived.Test.YtgibdafkidkahaaGreatDoorLed5
set_option linter.unusedVariables false
set_option linter.unusedSimpArgs false
namespace Go.Proofs.YtgibdafkidkahaaGreatDoor

theorem fxOk_of {g : Lg} {fx : List Fx} (h : checkF g fx = 0) : FxOk fx := by
  obtain ⟨_, _, h3⟩ := checkF_zero h
  have hb : ∀ f ∈ fx, badFx f = false := fun f hf => by
    obtain ⟨j, hj⟩ := List.getElem?_of_mem hf
    exact (fxErr_zero (h3 j f hj)).1
  refine ⟨fun f hf => ?_, fun f hf => ?_, ?_⟩
  · have := hb f hf
    simp [badFx] at this
    omega
  · have := hb f hf
    simp [badFx] at this
    omega
  · rw [List.pairwise_iff_getElem]
    intro i j hi hj hij
    have h4 := (fxErr_zero (h3 j fx[j] (List.getElem?_eq_getElem hj))).2.2.2
    rw [List.any_eq_false] at h4
    have := h4 fx[i] (List.mem_iff_getElem?.2 ⟨i, by rw [List.getElem?_take, if_pos hij]; exact List.getElem?_eq_getElem hi⟩)
    simpa using this
/-- The branches of a ledger, and what is in effect on them. -/
def bsOf (g : Lg) : List (Str × List Int) := g.brs.map fun b => (b.name, effectL g b.name)
theorem brs_pos {l : List Br} (h : checkB l = 0) : l.Pairwise fun a b => idx l a.name < idx l b.name := by
  rw [List.pairwise_iff_getElem]
  intro i j hi hj hij
  have hu := (checkB_zero h).2.1
  have h1 := hu i l[i] (List.getElem?_eq_getElem hi)
  have h2 := hu j l[j] (List.getElem?_eq_getElem hj)
  omega
theorem bs_pos {g : Lg} (h : checkB g.brs = 0) : (bsOf g).Pairwise fun p q => idx g.brs p.1 < idx g.brs q.1 := by
  unfold bsOf
  rw [List.pairwise_map]
  exact brs_pos h
theorem idx_inj {l : List Br} {a b : Str} (h : 0 ≤ idx l a) (he : idx l a = idx l b) : a = b := by
  obtain ⟨k, x, h1, h2, h3⟩ := idx_at h
  obtain ⟨k', x', h1', h2', h3'⟩ := idx_at (he ▸ h)
  have : k = k' := by omega
  subst this
  rw [h2] at h2'
  cases h2'
  rw [← h3, ← h3']
theorem idx_mem {l : List Br} {b : Br} (h : b ∈ l) : 0 ≤ idx l b.name := by
  obtain ⟨j, hj⟩ := List.getElem?_of_mem h
  exact (idx_le hj).1
theorem bs_inj {g : Lg} : ∀ p ∈ bsOf g, ∀ q ∈ bsOf g, idx g.brs p.1 = idx g.brs q.1 → p.1 = q.1 := by
  intro p hp q hq he
  obtain ⟨b, hb, rfl⟩ := List.mem_map.1 hp
  exact idx_inj (idx_mem hb) he
/-- The gaps of a ledger, in order. -/
def gapsL (g : Lg) (fx : List Fx) : List Gp := if checkF g fx = 0 then ordL fx (bsOf g) else []
theorem gapsL_ok {g : Lg} {fx : List Fx} (h : checkF g fx = 0) : gapsL g fx = ordL fx (bsOf g) := if_pos h
theorem gapsL_nil {g : Lg} {fx : List Fx} (h : checkF g fx ≠ 0) : gapsL g fx = [] := if_neg h
/-- The weights of some gaps on a branch. -/
def sumW (l : List Gp) (b : Str) : Int := l.foldl (fun n x => if x.br = b then n + x.wt else n) 0
theorem sumW_nil (b : Str) : sumW [] b = 0 := rfl
theorem sumW_snoc (l : List Gp) (x : Gp) (b : Str) : sumW (l ++ [x]) b = if x.br = b then sumW l b + x.wt else sumW l b := by
  unfold sumW
  rw [List.foldl_append]
  rfl
def scoreE (g : Lg) (fx : List Fx) (br : Str) : Int := if checkF g fx ≠ 0 then checkF g fx else if idx g.brs br < 0 then 6 else 0
def scoreV (g : Lg) (fx : List Fx) (br : Str) : Int := if scoreE g fx br = 0 then sumW (gapsL g fx) br else 0
/-- The worst branch so far, and its score. -/
def worstStep (l : List Gp) (p : Str × Int) (b : Br) : Str × Int := if p.2 < sumW l b.name then (b.name, sumW l b.name) else p
def worstP (l : List Gp) (bs : List Br) : Str × Int := bs.foldl (worstStep l) (ByteArray.empty, 0)
theorem worstP_snoc (l : List Gp) (bs : List Br) (b : Br) : worstP l (bs ++ [b]) = worstStep l (worstP l bs) b := by
  unfold worstP
  rw [List.foldl_append]
  rfl
def worstE (g : Lg) (fx : List Fx) : Int := if checkF g fx ≠ 0 then checkF g fx else if gapsL g fx = [] then 6 else 0
def worstV (g : Lg) (fx : List Fx) : Str × Int := if worstE g fx = 0 then worstP (gapsL g fx) g.brs else (ByteArray.empty, 0)
def thenE (g : Lg) (fx : List Fx) (br : Str) (n : Int) : Int := if checkF g fx ≠ 0 then checkF g fx else afterErr g br n
def thenL (g : Lg) (fx : List Fx) (br : Str) (n : Int) : List Gp := if thenE g fx br n = 0 then ordL fx [(br, afterL g br n)] else []
/-- A number below 100, written out. -/
def dig1 (n : Nat) : UInt8 := UInt8.ofNat (48 + n)
def decS (n : Nat) : Str := if n < 10 then ⟨#[dig1 n]⟩ else ⟨#[dig1 (n / 10), dig1 (n % 10)]⟩
def lineG (x : Gp) : Str := decS x.wt.toNat ++ ⟨#[32]⟩ ++ decS x.cls.toNat ++ ⟨#[32]⟩ ++ x.br ++ ⟨#[10]⟩
def textG (l : List Gp) : Str := l.foldl (fun s x => s ++ lineG x) ByteArray.empty
def textL (g : Lg) (fx : List Fx) : Str := textG (gapsL g fx)
end Go.Proofs.YtgibdafkidkahaaGreatDoor
