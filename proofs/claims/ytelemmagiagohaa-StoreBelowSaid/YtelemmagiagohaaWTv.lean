/- Stores in plain Lean: getting what was put. -/
import Derived.Test.YtelemmagiagohaaWTu
namespace Go.Proofs.Ytelemmagiagohaa
open Go Go.Vm Rg
set_option linter.unusedSimpArgs false
set_option linter.unusedVariables false
set_option maxRecDepth 10000
theorem get_of_mem {s y : D} (h : stE s = 0) (hy : y ∈ flat (lsts s)) : getTE s (y.nth 0) = 0 ∧ getT s (y.nth 0) = y := by
  obtain ⟨hok, hd, _, _⟩ := st_ok h
  obtain ⟨i, hi, j, hj, rfl⟩ := mem_flat.1 hy
  have h2 := ev_id hok hi hj
  obtain ⟨d, hdd⟩ : ∃ d, d = (evAt (rgAt s i) j).nth 0 := ⟨_, rfl⟩
  rw [← hdd] at h2 ⊢
  have hc : cI s (d.nth 0).int = i := by rw [h2.1]; exact cI_lab hd hi
  have hE : cE s (d.nth 0).int = 0 := by rw [cE, hc, if_pos hi]
  have hr := getT_r (d := d) h hE
  rw [hc] at hr
  have hb := chk_bad (hok.2 i hi)
  have hcap := cap_le hb
  have h0 : getE (rgAt s i) (d.nth 1).int = 0 := by
    rw [getE, if_neg (by simp [hok.2 i hi]), if_neg]
    simp only [Bool.or_eq_true, ltB_true, leB_true, h2.2]; omega
  rw [← hr.2, ← hr.1, h0]
  refine ⟨rfl, ?_⟩
  rw [getD', if_neg (by simp [h0]), h2.2]; rfl
theorem mem_of_get {s d : D} (h : stE s = 0) (h0 : getTE s d = 0) : ∃ y, y ∈ mrg s ∧ (d.nth 0).int = ((y.nth 0).nth 0).int ∧ (d.nth 1).int = ((y.nth 0).nth 1).int := by
  cases hh : mHasS [u64, u64] d (mpY (mrg s)) with
  | true =>
    obtain ⟨y, h1, h2, _⟩ := mp_yes (z := D0 storedS) hh
    have := (eqId _ _).1 h2
    exact ⟨y, h1, this.1, this.2⟩
  | false =>
    have := (get_no h (srt_perm _) hh).2
    rw [h0] at this; cases this
theorem hist_get {x : D × List D} {hor : Int} (H : Hist x hor) (h : stE x.1 = 0) {j : Nat} (hj : j < x.2.length) :
    (yng (x.1.nth 2).int hor (x.2.getD j .Z) = true → getTE x.1 ((x.2.getD j .Z).nth 0) = 0 ∧ getT x.1 ((x.2.getD j .Z).nth 0) = x.2.getD j .Z) ∧
    (yng (x.1.nth 2).int hor (x.2.getD j .Z) = false → getTE x.1 ((x.2.getD j .Z).nth 0) ≠ 0) := by
  refine ⟨fun hy => ?_, fun hy h0 => ?_⟩
  · refine get_of_mem h ((srt_perm _).mem_iff.1 (show x.2.getD j .Z ∈ mrg x.1 from ?_))
    rw [H.mrgE]
    exact List.mem_filter.2 ⟨getD_mem hj, hy⟩
  · obtain ⟨z, h1, h2, h3⟩ := mem_of_get h h0
    rw [H.mrgE] at h1
    obtain ⟨h4, h5⟩ := List.mem_filter.1 h1
    obtain ⟨i, hi, rfl⟩ := mem_getD h4
    have := hist_id H hi hj h2.symm h3.symm
    subst this
    rw [hy] at h5; cases h5
/-- What is left is right for stream.Check. -/
theorem hist_good {x : D × List D} {hor : Int} {i : Nat} (H : Hist x hor) (I : InvM x i) (hi : i ≤ 30) : GoodL (mrg x.1) := by
  have hlen : (mrg x.1).length ≤ 512 := mrg_len (st_ok I.ok).1
  have hn := nu_ok (st_ok I.ok).2.2.2
  have hmem : ∀ k, k < (mrg x.1).length → ∃ j, j < x.2.length ∧ x.2.getD j .Z = (mrg x.1).getD k .Z := fun k hk => by
    have h1 := getD_mem hk
    rw [H.mrgE] at h1
    obtain ⟨j, hj, e⟩ := mem_getD (List.mem_filter.1 h1).1
    exact ⟨j, hj, by rw [e, H.mrgE]⟩
  have hst := mrg_strict (st_adj I.ok)
  refine ⟨by omega, fun k hk => ?_, fun k q hkq hq hl => ?_, fun k hk => ?_⟩
  · obtain ⟨j, hj, e⟩ := hmem k hk
    rw [← e]
    have h1 := H.kd j hj
    have h2 := H.key j hj
    have h3 := H.tk j hj
    have h4 := H.no j hj
    have h5 := I.len
    have h6 : cnt x.2 j (lbS (x.2.getD j .Z)) ≤ j := by
      rw [cnt]
      have := List.length_filter_le (fun y => lbS y == lbS (x.2.getD j .Z)) (x.2.take j)
      rw [List.length_take] at this; omega
    have h7 := I.tk
    have h8 : (ltB ((x.2.getD j .Z).nth 3).int 0 || leB 26 ((x.2.getD j .Z).nth 3).int) = false := by
      cases hb : (ltB ((x.2.getD j .Z).nth 3).int 0 || leB 26 ((x.2.getD j .Z).nth 3).int) with
      | false => rfl
      | true =>
        have : evC (.L [.Z, (x.2.getD j .Z).nth 3]) = 11 := if_pos hb
        rw [h1] at this; cases this
    simp only [Bool.or_eq_false_iff, ltB_false, leB_false] at h8
    simp only [cntB, Bool.and_eq_true, leB_true, h2, h4]
    have e5 : tkO (x.2.getD j .Z) = ((x.2.getD j .Z).nth 2).int := rfl
    omega
  · obtain ⟨j, hj, e⟩ := hmem k (by omega)
    obtain ⟨p, hp, e2⟩ := hmem q hq
    have hkey : keyO ((mrg x.1).getD k .Z) < keyO ((mrg x.1).getD q .Z) := by
      have := List.pairwise_iff_getElem.1 hst k q (by omega) hq hkq
      rw [List.getD_eq_getElem?_getD, List.getD_eq_getElem?_getD, List.getElem?_eq_getElem (by omega), List.getElem?_eq_getElem hq]
      exact this
    rw [← e, ← e2] at hkey hl ⊢
    rw [H.key j hj, H.key p hp] at hkey
    have := cnt_lt (l := x.2) (i := j) (j := p) (by omega) (by omega) hl
    rw [H.no j hj, H.no p hp, hl]; omega
  · have h1 := adjL_no hn.2.1 k hk
    have h2 := List.pairwise_iff_getElem.1 hst k (k + 1) (by omega) hk (by omega)
    rw [adjB, Bool.or_eq_false_iff, ltB_false] at h1
    refine ⟨?_, h1.2⟩
    rw [List.getD_eq_getElem?_getD, List.getD_eq_getElem?_getD, List.getElem?_eq_getElem (by omega), List.getElem?_eq_getElem hk]
    exact h2
end Go.Proofs.Ytelemmagiagohaa
