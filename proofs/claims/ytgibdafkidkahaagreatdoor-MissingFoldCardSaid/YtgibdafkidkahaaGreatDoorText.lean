/- Derived: walks: the text of all gaps: the reference. -/
import Derived.Test.YtgibdafkidkahaaGreatDoorRef34D
import Derived.Laws.IdiomStrings
set_option linter.unusedVariables false
set_option linter.unusedSimpArgs false
namespace Go.Proofs.YtgibdafkidkahaaGreatDoor
open Go.RowKit

theorem litU8 (n : Int) (w : World) : (Instr.buildSlice 145 1 #[(0, .int .u8 n)]).run Tryz.prog w = .ok (.slice (some ⟨w.heap.size, 0, none⟩) 1 1) (w.alloc (.cells (.int .u8 n : Value).cells 5)) := by kernel_rfl
theorem dig1_nat {n : Nat} (h : n < 10) : ((dig1 n).toNat : Int) = 48 + (n : Int) := by
  unfold dig1
  simp
  omega
theorem decS_small {n : Nat} (h : n < 10) : decS n = ⟨#[dig1 n]⟩ := if_pos h
theorem decS_two {n : Nat} (h : ¬ n < 10) (h1 : n < 100) : decS n = decS (n / 10) ++ decS (n % 10) := by
  rw [decS_small (n := n / 10) (by omega), decS_small (n := n % 10) (by omega), decS, if_neg h]
  rfl
theorem decS_size (n : Nat) : 1 ≤ (decS n).size ∧ (decS n).size ≤ 2 := by
  unfold decS
  split
  · exact ⟨by show 1 ≤ 1; omega, by show 1 ≤ 2; omega⟩
  · exact ⟨by show 1 ≤ 2; omega, by show 2 ≤ 2; omega⟩
theorem decimal_small (n : Nat) (hn : n < 10) (w : World) :
    Calls Tryz.prog 83 #[.int .i64 (n : Int)] w fun e w' => e = .returned (.string (decS n)) ∧ Ext w w' := by
  rw [decS_small hn]
  have HD := Lib.hid (dig1_nat hn)
  go_enter Tryz.func83, Tryz.ntmps83
  go_wp2_with (with_reducible refine stop_lit ?_)
  refine Stop.go ?_
  refine ev_lit (y := .int .u8 (48 + (n : Int))) ?_ (litU8 _) ?_
  · first | rfl | (simp; omega)
  · intro g1 w1 hb he
    have hcv : (convert 145 9 (.slice (some ⟨g1, 0, none⟩) 1 1)).run Tryz.prog w1 = .ok (.string ⟨#[dig1 n]⟩) w1 :=
      run_convert_bytes_back w1 _ _ 5 ⟨g1, 0, none⟩ 1 [dig1 n] Tryz.underlying145 Tryz.underlying5 Tryz.underlying9 (fun j hj => by
        have : j = 0 := by simpa using hj
        subst this
        rw [add_zero', blk_cell hb]
        simp [HD.out, Value.cells])
    have HE := Lib.hid he
    clear hb he
    go_wp2
    go_ret
    exact ⟨rfl, HE.out⟩
theorem ref34_Decimal (n : Nat) (hn : n < 100) (w : World) :
    Calls Tryz.prog 83 #[.int .i64 (n : Int)] w fun e w' => e = .returned (.string (decS n)) ∧ Ext w w' := by
  by_cases h : n < 10
  · exact decimal_small n h w
  · have HT := Lib.hid (decS_two h hn)
    have HQ := Lib.hid (fun w => decimal_small (n / 10) (by omega) w)
    have HR := Lib.hid (fun w => decimal_small (n % 10) (by omega) w)
    have e1 : Int.tdiv (n : Int) 10 = ((n / 10 : Nat) : Int) := by rw [Int.tdiv_eq_ediv_of_nonneg (by omega)]; omega
    have e2 : Int.tmod (n : Int) 10 = ((n % 10 : Nat) : Int) := by rw [Int.tmod_eq_emod_of_nonneg (by omega)]; omega
    have b1 : n / 10 < 10 := by omega
    have b2 : n % 10 < 10 := by omega
    have s1 := (decS_size (n / 10)).2
    have s2 := (decS_size (n % 10)).2
    generalize n / 10 = q at *
    generalize n % 10 = r at *
    rw [HT.out]
    clear HT
    generalize decS q = s at *
    generalize decS r = t at *
    go_enter Tryz.func83, Tryz.ntmps83
    go_wp2_with fail
    refine (HQ.out _).mono ?_
    rintro e w1 ⟨rfl, he1⟩
    have HE1 := Lib.hid he1
    clear he1 HQ
    go_wp2_with fail
    refine (HR.out _).mono ?_
    rintro e w2 ⟨rfl, he2⟩
    have HE2 := Lib.hid (HE1.out.trans he2)
    clear he2 HR
    go_wp2
    go_ret
    exact ⟨rfl, HE2.out⟩

/-! ### lines -/
theorem textG_take {l : List Gp} {k : Nat} {x : Gp} (h : l[k]? = some x) : textG (l.take (k + 1)) = textG (l.take k) ++ lineG x := by
  unfold textG
  rw [List.take_add_one, h, List.foldl_append]
  rfl
theorem lineG_size (x : Gp) : (lineG x).size ≤ x.br.size + 7 := by
  unfold lineG
  simp only [ByteArray.size_append]
  have h1 := (decS_size x.wt.toNat).2
  have h2 := (decS_size x.cls.toNat).2
  have e1 : (⟨#[32]⟩ : ByteArray).size = 1 := rfl
  have e2 : (⟨#[10]⟩ : ByteArray).size = 1 := rfl
  omega
theorem textG_size : ∀ (l : List Gp), (∀ x ∈ l, x.br.size ≤ 40) → (textG l).size ≤ l.length * 47 := by
  intro l
  induction l using snoc_ind with
  | h0 => intro _; simp [textG]
  | h1 l x ih =>
    intro h
    have h1 := ih fun y hy => h y (by simp [hy])
    have h2 := lineG_size x
    have h3 := h x (by simp)
    have : textG (l ++ [x]) = textG l ++ lineG x := by unfold textG; rw [List.foldl_append]; rfl
    rw [this, ByteArray.size_append, List.length_append, List.length_singleton, Nat.add_mul]
    omega
theorem gaps_facts {g : Lg} {fx : List Fx} (h : checkF g fx = 0) : (gapsL g fx).length ≤ 240 ∧ ∀ x ∈ gapsL g fx, GpB x ∧ x.br.size ≤ 40 := by
  rw [gapsL_ok h]
  have hck := (checkF_zero h).1
  have hb := (checkL_zero hck).1.1.1.1.2
  have hp := raw_perm (fxOk_of h) (bs_pos hb)
  refine ⟨?_, fun x hx => ?_⟩
  · rw [← hp.length_eq]
    have h1 := rawL_len fx (bsOf g)
    have h2 : (bsOf g).length ≤ 8 := by simp [bsOf]; exact (checkB_zero hb).1
    have h3 := (checkF_zero h).2.1
    have h4 : (bsOf g).length * fx.length ≤ 8 * 30 := Nat.mul_le_mul h2 h3
    omega
  · have hx' := hp.mem_iff.2 hx
    refine ⟨raw_gpB (fxOk_of h) x hx', ?_⟩
    obtain ⟨p, hp, f, _, _, _, rfl⟩ := mem_rawL.1 hx'
    obtain ⟨b, hb', rfl⟩ := List.mem_map.1 hp
    obtain ⟨i, hi⟩ := List.getElem?_of_mem hb'
    have := (checkB_zero hb).2.2.2 i b hi
    simp [badAt] at this
    have h2 := (nameOk_iff b.name).1 (by simpa using this.1.1.1.1)
    exact h2.2.1
theorem line_assoc (s d1 d2 b n sp : Str) : s ++ d1 ++ sp ++ d2 ++ sp ++ b ++ n = s ++ (d1 ++ sp ++ d2 ++ sp ++ b ++ n) := by simp only [ByteArray.append_assoc]
set_option maxRecDepth 100000 in
set_option maxHeartbeats 4000000 in
theorem ref34_Text (g : Lg) (fx : List Fx) (v : Value) (A : Option Addr) (c : Nat) (w : World) (hv : LgV w v g) (hf : Rd elFx w A fx) :
    Calls Tryz.prog 19 #[v, .slice A fx.length c] w fun e w' => e = .returned (.tuple #[.string (textL g fx), .int .i64 (checkF g fx)]) ∧ Ext w w' := by
  obtain ⟨A0, c0, A1, c1, A2, c2, rfl, h0, h1, h2, r0, r1, r2⟩ := hv.ex
  have HG : Hid (∀ w2, Ext w w2 → _) := Lib.hid fun w2 (he : Ext w w2) => ref34_Gaps g fx _ A c w2 (hv.ext he) (hf.ext he)
  clear hv hf r0 r1 r2
  by_cases hck : checkF g fx = 0
  · obtain ⟨hl, hgs⟩ := gaps_facts hck
    have HGS := Lib.hid hgs
    have HTX : Hid (textL g fx = textG (gapsL g fx)) := Lib.hid rfl
    rw [hck] at HG ⊢
    rw [HTX.out]
    clear hck hgs HTX
    generalize gapsL g fx = l at *
    go_enter Tryz.func19, Tryz.ntmps19
    go_wp2_with (with_reducible refine stop_box ?_)
    refine Stop.go ?_
    refine ev_box3 (c0 := .slice A0 g.known.length c0) (c1 := .slice A1 g.brs.length c1) (c2 := .slice A2 g.evs.length c2) rfl ?_
    intro g1 w1 hb_g1 he hg_g1 k0 k1 k2
    have HE := Lib.hid he
    clear he hb_g1 hg_g1
    go_wp2_with fail
    refine (HG.out w1 HE.out).mono ?_
    rintro e w2 ⟨r, rfl, hown, he2⟩
    obtain ⟨A5, c5, rfl, hc5, hr5⟩ := hown.sl
    have HR5 := Lib.hid hr5
    have HE2 := Lib.hid (HE.out.trans he2)
    clear hown he2 hc5 hr5 HG k0 k1 k2
    go_wp2
    go_loopw [8, 9] (fun s i wr => ∃ k : Nat, k ≤ l.length ∧ i = .int .i64 (k : Int) ∧ s = .string (textG (l.take k)) ∧ Hid (Ext w2 wr)) (fun _ i _ => l.length - (intOf i).toNat)
    case atStart => exact ⟨0, Nat.zero_le _, rfl, rfl, Ext.refl _⟩
    case round =>
      obtain ⟨k, hk, rfl, rfl, hE⟩ := hrel
      by_cases hlt : k < l.length
      · have hx : l[k]? = some l[k] := List.getElem?_eq_getElem hlt
        obtain ⟨⟨b1, b2, b3, b4⟩, b5⟩ := HGS.out l[k] (List.getElem_mem hlt)
        generalize l[k] = x at hx b1 b2 b3 b4 b5
        have HT := Lib.hid (textG_take hx)
        have hts := textG_size (l.take k) (fun y hy => (HGS.out y (List.mem_of_mem_take hy)).2)
        have htk : (l.take k).length ≤ 240 := by rw [List.length_take]; omega
        obtain ⟨ad, rfl, q0, q1, q2⟩ := (HR5.out.ext hE.out).gp hx
        obtain ⟨wn, hwn⟩ : ∃ n : Nat, x.wt = n := ⟨x.wt.toNat, by omega⟩
        obtain ⟨cn, hcn⟩ : ∃ n : Nat, x.cls = n := ⟨x.cls.toNat, by omega⟩
        have HL : Hid (lineG x = decS wn ++ ⟨#[32]⟩ ++ decS cn ++ ⟨#[32]⟩ ++ x.br ++ ⟨#[10]⟩) := Lib.hid (by unfold lineG; rw [hwn, hcn]; rfl)
        have HW := Lib.hid (fun w => ref34_Decimal wn (by omega) w)
        have HC := Lib.hid (fun w => ref34_Decimal cn (by omega) w)
        rw [hcn] at q1
        rw [hwn] at q2
        have hs : (textG (l.take k)).size ≤ 240 * 47 := Nat.le_trans hts (Nat.mul_le_mul_right _ htk)
        have s1 := (decS_size wn).2
        have s2 := (decS_size cn).2
        generalize x.br = br at q0 HL b5
        clear hx hts htk hwn hcn b1 b2 b3 b4
        generalize decS wn = d1 at *
        generalize decS cn = d2 at *
        have HS : Hid (∀ t, t = textG (l.take k) → textG (l.take (k + 1)) = t ++ d1 ++ ⟨#[32]⟩ ++ d2 ++ ⟨#[32]⟩ ++ br ++ ⟨#[10]⟩) := Lib.hid fun t ht => by rw [HT.out, HL.out, ht, line_assoc]
        generalize textG (l.take k) = s at *
        have HS2 := Lib.hid (HS.out s rfl)
        clear HS HT HL
        have y0 : ∀ y : Up wr, y.u.cell? _ = _ := fun y => y.ext.cell q0
        have y1 : ∀ y : Up wr, y.u.cell? _ = _ := fun y => y.ext.cell q1
        have y2 : ∀ y : Up wr, y.u.cell? _ = _ := fun y => y.ext.cell q2
        go_wp2
        have hE1 : Ext wr wr.drew := (Ext.refl wr).drew
        refine wp_region_planU [(true, 0), (true, 1), (true, 2), (true, 3), (true, 4), (true, 5), (true, 9), (true, 10), (true, 11), (true, 12), (true, 13), (true, 17), (true, 18), (true, 19), (true, 20), (true, 21), (false, 6), (true, 7), (true, 8), (false, 14), (true, 15), (true, 16), (true, 22), (true, 23), (true, 24)] (by kernel_rfl) (by kernel_rfl) ?_
        iterate 16 ((try go_frame); refine plan_read ?_; go_big_quiet_step (fail); refine wpQuiet_nil ?_)
        refine plan_enter (F := 83) rfl (fun _ _ => by kernel_rfl) hE1 ((HW.out _).mono ?_)
        rintro e w4 ⟨rfl, he4⟩
        refine ⟨_, rfl, he4, ?_⟩
        iterate 2 ((try go_frame); refine plan_read ?_; go_big_quiet_step (fail); refine wpQuiet_nil ?_)
        refine plan_enter (F := 83) rfl (fun _ _ => by kernel_rfl) (hE1.trans he4) ((HC.out _).mono ?_)
        rintro e w5 ⟨rfl, he5⟩
        refine ⟨_, rfl, he5, ?_⟩
        iterate 5 ((try go_frame); refine plan_read ?_; go_big_quiet_step (fail); refine wpQuiet_nil ?_)
        refine plan_end ?_
        have HE5 := Lib.hid (hE.out.trans (hE1.trans (he4.trans he5)))
        clear y0 y1 y2 he4 he5 hE1 HW HC q0 q1 q2
        go_wp2
        go_roundw
        case rel => exact ⟨k + 1, by omega, by go_num, by rw [HS2.out], HE5.out⟩
        case measure => simp [intOf]; omega
      · have HR : Hid (textG (l.take k) = textG l) := Lib.hid (by rw [List.take_of_length_le (by omega)])
        have HE3 := Lib.hid (HE2.out.trans hE.out)
        go_wp2
        go_ret2
        rw [HR.out]
        exact ⟨rfl, HE3.out⟩
  · have HTX : Hid (textL g fx = ByteArray.empty) := Lib.hid (by unfold textL; rw [gapsL_nil hck]; rfl)
    have e9 : (checkF g fx != 0) = true := bne_iff_ne.2 hck
    rw [HTX.out]
    clear HTX hck
    generalize checkF g fx = z at *
    go_enter Tryz.func19, Tryz.ntmps19
    go_wp2_with (with_reducible refine stop_box ?_)
    refine Stop.go ?_
    refine ev_box3 (c0 := .slice A0 g.known.length c0) (c1 := .slice A1 g.brs.length c1) (c2 := .slice A2 g.evs.length c2) rfl ?_
    intro g1 w1 hb_g1 he hg_g1 k0 k1 k2
    have HE := Lib.hid he
    clear he hb_g1 hg_g1
    go_wp2_with fail
    refine (HG.out w1 HE.out).mono ?_
    rintro e w2 ⟨r, rfl, hown, he2⟩
    have HE2 := Lib.hid (HE.out.trans he2)
    clear hown he2 HG k0 k1 k2
    go_wp2
    go_ret2
    exact ⟨rfl, HE2.out⟩
end Go.Proofs.YtgibdafkidkahaaGreatDoor
