/- Stores in plain Lean: a put and a tick keep a store right. -/
import Derived.Test.YtmdhmjidmiemmaaWTi
namespace Go.Proofs.Ytmdhmjidmiemmaa
open Go Go.Vm Rg
set_option linter.unusedSimpArgs false
set_option linter.unusedVariables false
set_option maxRecDepth 10000
set_option linter.unusedSectionVars false
theorem st_zero {s : D} (h : okRgs s) (hd : dupG s = false) (hr : rngG s = false) (hn : numE s = 0) : stE s = 0 := by
  rw [st_num (by have := h.1; omega) h.2 hd hr, hn]
theorem getLastD_mem {Y : List D} {d : D} (h : Y ≠ []) : Y.getLastD d ∈ Y := by
  rw [List.getLastD_eq_getLast?, List.getLast?_eq_some_getLast h]
  exact List.getLast_mem h
/-! ### Put -/
theorem set_flat {ls : List (List D)} {i : Nat} {x : D} (hi : i < ls.length) : (flat (ls.set i (ls.getD i [] ++ [x]))).Perm (flat ls ++ [x]) := by
  have e1 : ls.getD i [] = ls[i] := by rw [List.getD_eq_getElem?_getD, List.getElem?_eq_getElem hi]; rfl
  have e2 : ls = ls.take i ++ ls[i] :: ls.drop (i + 1) := by
    rw [← List.drop_eq_getElem_cons hi, List.take_append_drop]
  have e3 : ls.set i (ls[i] ++ [x]) = ls.take i ++ (ls[i] ++ [x]) :: ls.drop (i + 1) := List.set_eq_take_append_cons_drop .. |>.trans (if_pos hi)
  rw [e1, e3]
  have e4 : flat ls = (ls.take i).flatten ++ (ls[i] ++ (ls.drop (i + 1)).flatten) := by
    rw [flat]
    conv => lhs; rw [e2]
    rw [List.flatten_append, List.flatten_cons]
  rw [e4, flat, List.flatten_append, List.flatten_cons]
  simp only [List.append_assoc]
  refine List.Perm.append_left _ (List.Perm.append_left _ ?_)
  exact List.perm_append_comm (l₁ := [x])
theorem evs_put {r x : D} (hb : badR r = false) (hf : (cap r : Int) < (r.nth 1).int) : evs (putD r x) = evs r ++ [x] := by
  rw [evs, cap_putD hb, lst_succ]
  have h1 : evAt (putD r x) (cap r) = x := evAt_putD_cap hb x
  have h2 : lst (putD r x) (cap r) = evs r := by
    rw [evs, lst, lst]
    exact List.map_congr_left fun k hk => evAt_putD hb hf x (by simpa using hk)
  rw [h1, h2]
section
variable {s e : D} (hs : 0 ≤ (s.nth 1).int ∧ 0 ≤ (s.nth 2).int ∧ 0 ≤ (s.nth 3).int) (h : stE s = 0) (hp : putTE s e = 0)
include hs h hp
theorem pu_parts : evC e = 0 ∧ cE s (labE e) = 0 ∧ (s.nth 1).int < 1099511627776 ∧ putE (rgE s e) (arr1 s) (s.nth 2).int (e.nth 1).int (e.nth 2).int = 0 := by
  rw [putTE, ite0 h] at hp
  split at hp
  · rename_i h1; exact absurd hp h1
  split at hp
  · cases hp
  split at hp
  · cases hp
  rename_i h1 h2 h3
  exact ⟨by simpa using h1, by simpa using h2, by simpa using h3, hp⟩
theorem pu_rgs : rgs (putT s e) = (rgs s).set (cI s (labE e)) (putD (rgE s e) (newE s e)) ∧ ((putT s e).nth 1).int = arr1 s ∧ (putT s e).nth 2 = s.nth 2 ∧ (putT s e).nth 3 = s.nth 3 := by
  rw [← (pu_ok hp).1]; exact ⟨rfl, rfl, rfl, rfl⟩
theorem pu_nG : nG (putT s e) = nG s := by
  rw [nG, (pu_rgs hs h hp).1, List.length_set]; rfl
theorem pu_at (i : Nat) (hi : i < nG s) : rgAt (putT s e) i = if i = cI s (labE e) then putD (rgE s e) (newE s e) else rgAt s i := by
  have hn : i < (rgs s).length := hi
  rw [rgAt, (pu_rgs hs h hp).1, List.getD_eq_getElem?_getD, List.getElem?_set]
  by_cases hc : cI s (labE e) = i
  · rw [if_pos hc, if_pos (by omega), if_pos hc.symm]; rfl
  · rw [if_neg hc, if_neg (fun e => hc e.symm), rgAt, List.getD_eq_getElem?_getD]
theorem pu_lab (i : Nat) : labG (putT s e) i = labG s i := by
  rw [labG, labG]
  by_cases hi : i < nG s
  · rw [pu_at hs h hp i hi]
    split
    · rename_i hc
      rw [(putD_0 _ _).1, rgE, ← hc]
    · rfl
  · have h1 : rgAt (putT s e) i = .Z := by
      rw [rgAt, List.getD_eq_getElem?_getD, List.getElem?_eq_none (by have := pu_nG hs h hp; show nG (putT s e) ≤ i; omega)]; rfl
    have h2 : rgAt s i = .Z := by
      rw [rgAt, List.getD_eq_getElem?_getD, List.getElem?_eq_none (by show nG s ≤ i; omega)]; rfl
    rw [h1, h2]
theorem pu_ring : chk (putD (rgE s e) (newE s e)) = 0 ∧ evs (putD (rgE s e) (newE s e)) = evs (rgE s e) ++ [newE s e] := by
  obtain ⟨_, _, _, h4⟩ := pu_parts hs h hp
  have h5 := putE_0 h4
  exact ⟨chk_put h4, evs_put (chk_bad h5.1) h5.2.2.1⟩
theorem pu_okRgs : okRgs (putT s e) := by
  have hok := (st_ok h).1
  refine ⟨by rw [pu_nG hs h hp]; exact hok.1, fun i hi => ?_⟩
  rw [pu_nG hs h hp] at hi
  rw [pu_at hs h hp i hi]
  split
  · exact (pu_ring hs h hp).1
  · exact hok.2 i hi
theorem pu_lsts : lsts (putT s e) = (lsts s).set (cI s (labE e)) ((lsts s).getD (cI s (labE e)) [] ++ [newE s e]) := by
  obtain ⟨_, h2, _, _⟩ := pu_parts hs h hp
  have hc := (cN_lt h2).2.2.2
  rw [lsts, (pu_rgs hs h hp).1, List.map_set, (pu_ring hs h hp).2]
  congr 2
  have hl : cI s (labE e) < (rgs s).length := hc
  rw [List.getD_eq_getElem?_getD, lsts, List.getElem?_map, List.getElem?_eq_getElem hl]
  show evs (rgE s e) = evs ((rgs s)[cI s (labE e)])
  rw [rgE, rgAt, List.getD_eq_getElem?_getD, List.getElem?_eq_getElem hl]; rfl
theorem mrg_key {x : D} (hx : x ∈ mrg s) : 1 ≤ keyO x ∧ keyO x ≤ (s.nth 1).int ∧ 0 ≤ (x.nth 2).int ∧ (x.nth 2).int ≤ (s.nth 2).int := by
  have h1 := flat_pos (st_ok h).1 ((srt_perm _).mem_iff.1 hx)
  have h2 := (nu_ok (st_ok h).2.2.2).1
  rw [List.any_eq_false] at h2
  have h3 := h2 x hx
  simp only [lateG, Bool.or_eq_true, ltB_true, not_or] at h3
  have : keyO x = (x.nth 1).int := rfl
  omega
theorem pu_mrg : mrg (putT s e) = mrg s ++ [newE s e] := by
  obtain ⟨_, h2, _, _⟩ := pu_parts hs h hp
  have hc := (cN_lt h2).2.2.2
  have hst : Strict keyO (mrg s ++ [newE s e]) := by
    rw [Strict, List.pairwise_append]
    refine ⟨mrg_strict (st_adj h), List.pairwise_singleton .., fun x hx y hy => ?_⟩
    rw [List.mem_singleton] at hy; subst hy
    have := (mrg_key hs h hp hx).2.1
    show keyO x < arr1 s
    rw [arr1]; omega
  have hperm : (mrg s ++ [newE s e]).Perm (flat (lsts (putT s e))) := by
    rw [pu_lsts hs h hp]
    have h1 := set_flat (ls := lsts s) (i := cI s (labE e)) (x := newE s e) (by rw [lsts, List.length_map]; exact hc)
    exact ((srt_perm _).append_right _).trans h1.symm
  exact (srt_eq ((hperm.map keyO).nodup_iff.1 (strict_nodup hst)) hperm (hst.imp fun h => by omega)).symm
theorem pu_right : stE (putT s e) = 0 := by
  obtain ⟨_, hd, hr, hn⟩ := st_ok h
  obtain ⟨hr1, hr2, hr3, hr4⟩ := pu_rgs hs h hp
  obtain ⟨_, _, h3, _⟩ := pu_parts hs h hp
  have hin := hs
  have hrng := st_rng h
  refine st_zero (pu_okRgs hs h hp) ?_ ?_ ?_
  · have e1 : dupG (putT s e) = dupG s := by
      simp only [dupG, pu_nG hs h hp, pu_lab hs h hp]
    rw [e1, hd]
  · simp only [rngG, hr2, hr3, hr4, Bool.or_eq_false_iff, ltB_false, arr1]; omega
  · obtain ⟨n1, n2, n3⟩ := nu_ok hn
    refine nu_0 ?_ ?_ ?_
    · rw [pu_mrg hs h hp, List.any_eq_false]
      intro x hx
      simp only [lateG, hr2, hr3, Bool.or_eq_true, ltB_true, not_or, arr1]
      rcases List.mem_append.1 hx with hx | hx
      · have := mrg_key hs h hp hx
        have e0 : keyO x = (x.nth 1).int := rfl
        omega
      · rw [List.mem_singleton] at hx; subst hx
        have e1 : ((newE s e).nth 1).int = arr1 s := rfl
        have e2 : ((newE s e).nth 2).int = (s.nth 2).int := rfl
        rw [e1, e2, arr1]; omega
    · have hlast : (((newE s e).nth 1).int == (((mrg s).getLastD (D0 storedS)).nth 1).int || ltB ((newE s e).nth 2).int (((mrg s).getLastD (D0 storedS)).nth 2).int) = false := by
        have e1 : ((newE s e).nth 1).int = arr1 s := rfl
        have e2 : ((newE s e).nth 2).int = (s.nth 2).int := rfl
        rw [e1, e2, Bool.or_eq_false_iff, beq_eq_false_iff_ne, ltB_false, arr1]
        by_cases hne : mrg s = []
        · rw [hne]
          show (s.nth 1).int + 1 ≠ 0 ∧ 0 ≤ (s.nth 2).int
          omega
        · have := mrg_key hs h hp (getLastD_mem (d := D0 storedS) hne)
          have e0 : keyO ((mrg s).getLastD (D0 storedS)) = (((mrg s).getLastD (D0 storedS)).nth 1).int := rfl
          omega
      rw [pu_mrg hs h hp]
      exact anyR_no fun k hk => adj_snoc (adjL_no n2) hlast k (by omega)
    · rw [pu_mrg hs h hp, List.any_eq_false]
      intro x hx
      rcases List.mem_append.1 hx with hx | hx
      · rw [List.any_eq_false] at n3
        have := n3 x hx
        rw [oldG, hr3, hr4]; exact this
      · rw [List.mem_singleton] at hx; subst hx
        have e2 : ((newE s e).nth 2).int = (s.nth 2).int := rfl
        rw [oldG, hr3, hr4, e2, wrap_u64 (by omega) (by omega)]
        simp only [leB_true]; omega
end
end Go.Proofs.Ytmdhmjidmiemmaa
