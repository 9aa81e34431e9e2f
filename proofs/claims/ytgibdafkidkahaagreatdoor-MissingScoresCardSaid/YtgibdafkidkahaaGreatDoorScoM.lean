/- Derived: plain: scores of all branches together; the first branch with the greatest one. -/
import Derived.Test.YtgibdafkidkahaaGreatDoorAliv2
set_option linter.unusedVariables false
set_option linter.unusedSimpArgs false
namespace Go.Proofs.YtgibdafkidkahaaGreatDoor
open Go.RowKit

def allW (l : List Gp) : Int := l.foldl (fun n x => n + x.wt) 0
theorem allW_snoc (l : List Gp) (x : Gp) : allW (l ++ [x]) = allW l + x.wt := by unfold allW; rw [List.foldl_append]; rfl
theorem allW_take {l : List Gp} {k : Nat} {x : Gp} (h : l[k]? = some x) : allW (l.take (k + 1)) = allW (l.take k) + x.wt := by
  rw [List.take_add_one, h]; exact allW_snoc _ _
theorem allW_bound {l : List Gp} (h : ∀ x ∈ l, GpB x) : 0 ≤ allW l ∧ allW l ≤ 9 * (l.length : Int) := by
  induction l using snoc_ind with
  | h0 => exact ⟨Int.le_refl _, Int.le_refl _⟩
  | h1 l x ih =>
    have h1 := ih fun y hy => h y (List.mem_append_left _ hy)
    have h2 := h x (List.mem_append_right _ (List.mem_singleton.2 rfl))
    unfold GpB at h2
    rw [allW_snoc, List.length_append, List.length_singleton]
    omega
def sumB (l : List Gp) (bs : List Br) : Int := bs.foldl (fun s b => s + sumW l b.name) 0
theorem sumB_snoc (l : List Gp) (bs : List Br) (b : Br) : sumB l (bs ++ [b]) = sumB l bs + sumW l b.name := by unfold sumB; rw [List.foldl_append]; rfl
theorem sumB_take (l : List Gp) {bs : List Br} {k : Nat} {b : Br} (h : bs[k]? = some b) : sumB l (bs.take (k + 1)) = sumB l (bs.take k) + sumW l b.name := by
  rw [List.take_add_one, h]; exact sumB_snoc _ _ _
theorem sumB_bound {l : List Gp} (h : ∀ x ∈ l, GpB x) (hl : l.length ≤ 240) (bs : List Br) : 0 ≤ sumB l bs ∧ sumB l bs ≤ 2160 * (bs.length : Int) := by
  induction bs using snoc_ind with
  | h0 => exact ⟨Int.le_refl _, Int.le_refl _⟩
  | h1 bs b ih =>
    have h1 := sumW_bound h b.name
    rw [sumB_snoc, List.length_append, List.length_singleton]
    omega
theorem sumB_nil (bs : List Br) : sumB [] bs = 0 := by
  induction bs using snoc_ind with
  | h0 => rfl
  | h1 bs b ih => rw [sumB_snoc, ih]; rfl
theorem sumB_add (l : List Gp) (x : Gp) (bs : List Br) (hb : bs.Pairwise fun a b => a.name ≠ b.name) :
    sumB (l ++ [x]) bs = sumB l bs + (if ∃ b ∈ bs, b.name = x.br then x.wt else 0) := by
  induction bs using snoc_ind with
  | h0 => simp [sumB]
  | h1 bs b ih =>
    rw [List.pairwise_append] at hb
    rw [sumB_snoc, sumB_snoc, ih hb.1, sumW_snoc]
    by_cases h : x.br = b.name
    · have hn : ¬ ∃ c ∈ bs, c.name = x.br := by
        rintro ⟨c, hc, e⟩
        exact hb.2.2 c hc b (List.mem_singleton.2 rfl) (e.trans h)
      have hy : ∃ c ∈ bs ++ [b], c.name = x.br := ⟨b, List.mem_append_right _ (List.mem_singleton.2 rfl), h.symm⟩
      rw [if_pos h, if_neg hn, if_pos hy]
      omega
    · rw [if_neg h]
      by_cases hy : ∃ c ∈ bs, c.name = x.br
      · have hy2 : ∃ c ∈ bs ++ [b], c.name = x.br := by obtain ⟨c, hc, e⟩ := hy; exact ⟨c, List.mem_append_left _ hc, e⟩
        rw [if_pos hy, if_pos hy2]; omega
      · have hy2 : ¬ ∃ c ∈ bs ++ [b], c.name = x.br := by
          rintro ⟨c, hc, e⟩
          rcases List.mem_append.1 hc with hc | hc
          · exact hy ⟨c, hc, e⟩
          · rw [List.mem_singleton.1 hc] at e; exact h e.symm
        rw [if_neg hy, if_neg hy2]; omega
theorem sumB_all {l : List Gp} {bs : List Br} (hb : bs.Pairwise fun a b => a.name ≠ b.name) (h : ∀ x ∈ l, ∃ b ∈ bs, x.br = b.name) : sumB l bs = allW l := by
  induction l using snoc_ind with
  | h0 => rw [sumB_nil]; rfl
  | h1 l x ih =>
    obtain ⟨b, h1, h2⟩ := h x (List.mem_append_right _ (List.mem_singleton.2 rfl))
    rw [sumB_add l x bs hb, if_pos ⟨b, h1, h2.symm⟩, allW_snoc, ih fun y hy => h y (List.mem_append_left _ hy)]
theorem worst_max (l : List Gp) (bs : List Br) : 0 ≤ (worstP l bs).2 ∧ ∀ b ∈ bs, sumW l b.name ≤ (worstP l bs).2 := by
  induction bs using snoc_ind with
  | h0 => exact ⟨Int.le_refl _, fun b hb => by simp at hb⟩
  | h1 bs b ih =>
    rw [worstP_snoc]
    unfold worstStep
    split
    · rename_i hlt
      refine ⟨by simp only; have := ih.1; omega, fun c hc => ?_⟩
      rcases List.mem_append.1 hc with hc | hc
      · have := ih.2 c hc; simp only; omega
      · rw [List.mem_singleton.1 hc]; exact Int.le_refl _
    · rename_i hge
      refine ⟨ih.1, fun c hc => ?_⟩
      rcases List.mem_append.1 hc with hc | hc
      · exact ih.2 c hc
      · rw [List.mem_singleton.1 hc]; omega
theorem sumW_mem {l : List Gp} (h : ∀ x ∈ l, GpB x) : ∀ x ∈ l, x.wt ≤ sumW l x.br := by
  induction l using snoc_ind with
  | h0 => intro x hx; simp at hx
  | h1 l y ih =>
    have hl : ∀ x ∈ l, GpB x := fun z hz => h z (List.mem_append_left _ hz)
    have hy := h y (List.mem_append_right _ (List.mem_singleton.2 rfl))
    unfold GpB at hy
    intro x hx
    rw [sumW_snoc]
    rcases List.mem_append.1 hx with hx | hx
    · have := ih hl x hx
      split <;> omega
    · rw [List.mem_singleton.1 hx, if_pos rfl]
      have := (sumW_bound hl y.br).1
      omega
def firstF (l : List Gp) (m : Int) (bs : List Br) : Str := bs.foldl (fun f b => if sumW l b.name = m ∧ f = ByteArray.empty then b.name else f) ByteArray.empty
theorem firstF_snoc (l : List Gp) (m : Int) (bs : List Br) (b : Br) : firstF l m (bs ++ [b]) = if sumW l b.name = m ∧ firstF l m bs = ByteArray.empty then b.name else firstF l m bs := by unfold firstF; rw [List.foldl_append]; rfl
theorem firstF_take (l : List Gp) (m : Int) {bs : List Br} {k : Nat} {b : Br} (h : bs[k]? = some b) : firstF l m (bs.take (k + 1)) = if sumW l b.name = m ∧ firstF l m (bs.take k) = ByteArray.empty then b.name else firstF l m (bs.take k) := by
  rw [List.take_add_one, h]; exact firstF_snoc _ _ _ _
theorem firstF_worst (l : List Gp) (bs : List Br) (hn : ∀ b ∈ bs, b.name ≠ ByteArray.empty) :
    (0 < (worstP l bs).2 → (worstP l bs).1 ≠ ByteArray.empty) ∧ ∀ m : Int, 0 < m → (worstP l bs).2 ≤ m → firstF l m bs = if (worstP l bs).2 = m then (worstP l bs).1 else ByteArray.empty := by
  induction bs using snoc_ind with
  | h0 =>
    refine ⟨fun h => absurd h (Int.lt_irrefl 0), fun m h1 h2 => ?_⟩
    have h3 : (worstP l []).1 = ByteArray.empty := rfl
    rw [h3, ite_self]
    rfl
  | h1 bs b ih =>
    obtain ⟨i1, i2⟩ := ih fun c hc => hn c (List.mem_append_left _ hc)
    have hb := hn b (List.mem_append_right _ (List.mem_singleton.2 rfl))
    have h0 := (worst_max l bs).1
    rw [worstP_snoc]
    unfold worstStep
    by_cases hlt : (worstP l bs).2 < sumW l b.name
    · rw [if_pos hlt]
      refine ⟨fun _ => hb, fun m h1 h2 => ?_⟩
      simp only at h2 ⊢
      have z : ¬ (worstP l bs).2 = m := by omega
      rw [firstF_snoc, i2 m h1 (by omega), if_neg z]
      by_cases he : sumW l b.name = m
      · rw [if_pos ⟨he, rfl⟩, if_pos he]
      · rw [if_neg (fun h => he h.1), if_neg he]
    · rw [if_neg hlt]
      refine ⟨i1, fun m h1 h2 => ?_⟩
      rw [firstF_snoc, i2 m h1 h2]
      by_cases he : (worstP l bs).2 = m
      · rw [if_pos he, if_neg (fun h => i1 (by omega) h.2)]
      · rw [if_neg he, if_neg (fun h => absurd h.1 (by omega))]
/-- All that the law asks of a ledger and fixes that are right. -/
structure ScoreFacts (g : Lg) (l : List Gp) (E : Int) (V : Str × Int) : Prop where
  len : l.length ≤ 240
  gp : ∀ x ∈ l, GpB x
  br8 : g.brs.length ≤ 8
  e : (l = [] → E = 6) ∧ (l ≠ [] → E = 0)
  most : ∀ b ∈ g.brs, sumW l b.name ≤ V.2
  all : sumB l g.brs = allW l
  first : l ≠ [] → firstF l V.2 g.brs = V.1
theorem score_facts {g : Lg} {fx : List Fx} (h : checkF g fx = 0) : ScoreFacts g (gapsL g fx) (worstE g fx) (worstV g fx) := by
  have hb := (checkL_zero (checkF_zero h).1).1.1.1.1.2
  obtain ⟨hl, hgs⟩ := gaps_facts h
  have hgp : ∀ x ∈ gapsL g fx, GpB x := fun x hx => (hgs x hx).1
  have hbr := gap_branch h
  have he : worstE g fx = if gapsL g fx = [] then 6 else 0 := by unfold worstE; rw [if_neg (by simp [h])]
  have hv : gapsL g fx ≠ [] → worstV g fx = worstP (gapsL g fx) g.brs := fun hn => by unfold worstV; rw [if_pos (by rw [he, if_neg hn])]
  have hv0 : gapsL g fx = [] → worstV g fx = (ByteArray.empty, 0) := fun hn => by unfold worstV; rw [if_neg (by rw [he, if_pos hn]; decide)]
  generalize worstV g fx = V at *
  generalize worstE g fx = E at *
  generalize gapsL g fx = l at *
  refine ⟨hl, hgp, (checkB_zero hb).1, ⟨fun hn => by rw [he, if_pos hn], fun hn => by rw [he, if_neg hn]⟩, fun b hb' => ?_, ?_, fun hn => ?_⟩
  · by_cases hn : l = []
    · rw [hv0 hn, hn]; exact Int.le_refl _
    · rw [hv hn]; exact (worst_max l g.brs).2 b hb'
  · exact sumB_all ((brs_pos hb).imp fun hlt e => by rw [e] at hlt; omega) hbr
  · rw [hv hn]
    obtain ⟨x, t, hx⟩ : ∃ x t, l = x :: t := by cases l with | nil => exact absurd rfl hn | cons x t => exact ⟨x, t, rfl⟩
    have hm : x ∈ l := by rw [hx]; exact List.mem_cons_self
    obtain ⟨b, h1, h2⟩ := hbr x hm
    have h3 := sumW_mem hgp x hm
    have h4 := (worst_max l g.brs).2 b h1
    have h5 := (hgp x hm).1
    rw [h2] at h3
    have h6 := (firstF_worst l g.brs (brs_name hb)).2 (worstP l g.brs).2 (by omega) (Int.le_refl _)
    rw [h6, if_pos rfl]
theorem score_ok {g : Lg} {fx : List Fx} (h : checkF g fx = 0) {b : Br} (hb : b ∈ g.brs) : scoreE g fx b.name = 0 ∧ scoreV g fx b.name = sumW (gapsL g fx) b.name := by
  have h1 : scoreE g fx b.name = 0 := by unfold scoreE; rw [if_neg (by simp [h]), if_neg (by have := idx_mem hb; omega)]
  exact ⟨h1, by unfold scoreV; rw [if_pos h1]⟩
end Go.Proofs.YtgibdafkidkahaaGreatDoor
