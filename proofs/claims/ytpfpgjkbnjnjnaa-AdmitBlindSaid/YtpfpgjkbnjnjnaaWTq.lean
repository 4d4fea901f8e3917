/- Stores in plain Lean: a put and a tick keep a store right. Stores in plain Lean: a tick keeps a store right. -/
import Derived.Test.YtpfpgjkbnjnjnaaWTi
namespace Go.Proofs.Ytpfpgjkbnjnjnaa
open Go Go.Vm Rg
set_option linter.unusedSimpArgs false
set_option linter.unusedVariables false
set_option maxRecDepth 10000
set_option linter.unusedSectionVars false
theorem st_zero {s : D} (h : okRgs s) (hd : dupG s = false) (hr : rngG s = false) (hn : numE s = 0) : stE s = 0 := by
  rw [st_num (by have := h.1; omega) h.2 hd hr, hn]
theorem getLastD_mem {Y : List D} {d : D} (h : Y ≠ []) : Y.getLastD d ∈ Y := by
  rw [List.getLastD_eq_getLast?, List.getLast?_eq_some_getLast h]
  exact List.getLast_mem h
/-! ### Put -/
theorem set_flat {ls : List (List D)} {i : Nat} {x : D} (hi : i < ls.length) : (flat (ls.set i (ls.getD i [] ++ [x]))).Perm (flat ls ++ [x]) := by
  have e1 : ls.getD i [] = ls[i] := by rw [List.getD_eq_getElem?_getD, List.getElem?_eq_getElem hi]; rfl
  have e2 : ls = ls.take i ++ ls[i] :: ls.drop (i + 1) := by
    rw [← List.drop_eq_getElem_cons hi, List.take_append_drop]
  have e3 : ls.set i (ls[i] ++ [x]) = ls.take i ++ (ls[i] ++ [x]) :: ls.drop (i + 1) := List.set_eq_take_append_cons_drop .. |>.trans (if_pos hi)
  rw [e1, e3]
  have e4 : flat ls = (ls.take i).flatten ++ (ls[i] ++ (ls.drop (i + 1)).flatten) := by
    rw [flat]
    conv => lhs; rw [e2]
    rw [List.flatten_append, List.flatten_cons]
  rw [e4, flat, List.flatten_append, List.flatten_cons]
  simp only [List.append_assoc]
  refine List.Perm.append_left _ (List.Perm.append_left _ ?_)
  exact List.perm_append_comm (l₁ := [x])
theorem evs_put {r x : D} (hb : badR r = false) (hf : (cap r : Int) < (r.nth 1).int) : evs (putD r x) = evs r ++ [x] := by
  rw [evs, cap_putD hb, lst_succ]
  have h1 : evAt (putD r x) (cap r) = x := evAt_putD_cap hb x
  have h2 : lst (putD r x) (cap r) = evs r := by
    rw [evs, lst, lst]
    exact List.map_congr_left fun k hk => evAt_putD hb hf x (by simpa using hk)
  rw [h1, h2]
section
variable {s e : D} (hs : 0 ≤ (s.nth 1).int ∧ 0 ≤ (s.nth 2).int ∧ 0 ≤ (s.nth 3).int) (h : stE s = 0) (hp : putTE s e = 0)
include hs h hp
theorem pu_parts : evC e = 0 ∧ cE s (labE e) = 0 ∧ (s.nth 1).int < 1099511627776 ∧ putE (rgE s e) (arr1 s) (s.nth 2).int (e.nth 1).int (e.nth 2).int = 0 := by
  rw [putTE, ite0 h] at hp
  split at hp
  · rename_i h1; exact absurd hp h1
  split at hp
  · cases hp
  split at hp
  · cases hp
  rename_i h1 h2 h3
  exact ⟨by simpa using h1, by simpa using h2, by simpa using h3, hp⟩
theorem pu_rgs : rgs (putT s e) = (rgs s).set (cI s (labE e)) (putD (rgE s e) (newE s e)) ∧ ((putT s e).nth 1).int = arr1 s ∧ (putT s e).nth 2 = s.nth 2 ∧ (putT s e).nth 3 = s.nth 3 := by
  rw [← (pu_ok hp).1]; exact ⟨rfl, rfl, rfl, rfl⟩
theorem pu_nG : nG (putT s e) = nG s := by
  rw [nG, (pu_rgs hs h hp).1, List.length_set]; rfl
theorem pu_at (i : Nat) (hi : i < nG s) : rgAt (putT s e) i = if i = cI s (labE e) then putD (rgE s e) (newE s e) else rgAt s i := by
  have hn : i < (rgs s).length := hi
  rw [rgAt, (pu_rgs hs h hp).1, List.getD_eq_getElem?_getD, List.getElem?_set]
  by_cases hc : cI s (labE e) = i
  · rw [if_pos hc, if_pos (by omega), if_pos hc.symm]; rfl
  · rw [if_neg hc, if_neg (fun e => hc e.symm), rgAt, List.getD_eq_getElem?_getD]
theorem pu_lab (i : Nat) : labG (putT s e) i = labG s i := by
  rw [labG, labG]
  by_cases hi : i < nG s
  · rw [pu_at hs h hp i hi]
    split
    · rename_i hc
      rw [(putD_0 _ _).1, rgE, ← hc]
    · rfl
  · have h1 : rgAt (putT s e) i = .Z := by
      rw [rgAt, List.getD_eq_getElem?_getD, List.getElem?_eq_none (by have := pu_nG hs h hp; show nG (putT s e) ≤ i; omega)]; rfl
    have h2 : rgAt s i = .Z := by
      rw [rgAt, List.getD_eq_getElem?_getD, List.getElem?_eq_none (by show nG s ≤ i; omega)]; rfl
    rw [h1, h2]
theorem pu_ring : chk (putD (rgE s e) (newE s e)) = 0 ∧ evs (putD (rgE s e) (newE s e)) = evs (rgE s e) ++ [newE s e] := by
  obtain ⟨_, _, _, h4⟩ := pu_parts hs h hp
  have h5 := putE_0 h4
  exact ⟨chk_put h4, evs_put (chk_bad h5.1) h5.2.2.1⟩
theorem pu_okRgs : okRgs (putT s e) := by
  have hok := (st_ok h).1
  refine ⟨by rw [pu_nG hs h hp]; exact hok.1, fun i hi => ?_⟩
  rw [pu_nG hs h hp] at hi
  rw [pu_at hs h hp i hi]
  split
  · exact (pu_ring hs h hp).1
  · exact hok.2 i hi
theorem pu_lsts : lsts (putT s e) = (lsts s).set (cI s (labE e)) ((lsts s).getD (cI s (labE e)) [] ++ [newE s e]) := by
  obtain ⟨_, h2, _, _⟩ := pu_parts hs h hp
  have hc := (cN_lt h2).2.2.2
  rw [lsts, (pu_rgs hs h hp).1, List.map_set, (pu_ring hs h hp).2]
  congr 2
  have hl : cI s (labE e) < (rgs s).length := hc
  rw [List.getD_eq_getElem?_getD, lsts, List.getElem?_map, List.getElem?_eq_getElem hl]
  show evs (rgE s e) = evs ((rgs s)[cI s (labE e)])
  rw [rgE, rgAt, List.getD_eq_getElem?_getD, List.getElem?_eq_getElem hl]; rfl
theorem mrg_key {x : D} (hx : x ∈ mrg s) : 1 ≤ keyO x ∧ keyO x ≤ (s.nth 1).int ∧ 0 ≤ (x.nth 2).int ∧ (x.nth 2).int ≤ (s.nth 2).int := by
  have h1 := flat_pos (st_ok h).1 ((srt_perm _).mem_iff.1 hx)
  have h2 := (nu_ok (st_ok h).2.2.2).1
  rw [List.any_eq_false] at h2
  have h3 := h2 x hx
  simp only [lateG, Bool.or_eq_true, ltB_true, not_or] at h3
  have : keyO x = (x.nth 1).int := rfl
  omega
theorem pu_mrg : mrg (putT s e) = mrg s ++ [newE s e] := by
  obtain ⟨_, h2, _, _⟩ := pu_parts hs h hp
  have hc := (cN_lt h2).2.2.2
  have hst : Strict keyO (mrg s ++ [newE s e]) := by
    rw [Strict, List.pairwise_append]
    refine ⟨mrg_strict (st_adj h), List.pairwise_singleton .., fun x hx y hy => ?_⟩
    rw [List.mem_singleton] at hy; subst hy
    have := (mrg_key hs h hp hx).2.1
    show keyO x < arr1 s
    rw [arr1]; omega
  have hperm : (mrg s ++ [newE s e]).Perm (flat (lsts (putT s e))) := by
    rw [pu_lsts hs h hp]
    have h1 := set_flat (ls := lsts s) (i := cI s (labE e)) (x := newE s e) (by rw [lsts, List.length_map]; exact hc)
    exact ((srt_perm _).append_right _).trans h1.symm
  exact (srt_eq ((hperm.map keyO).nodup_iff.1 (strict_nodup hst)) hperm (hst.imp fun h => by omega)).symm
theorem pu_right : stE (putT s e) = 0 := by
  obtain ⟨_, hd, hr, hn⟩ := st_ok h
  obtain ⟨hr1, hr2, hr3, hr4⟩ := pu_rgs hs h hp
  obtain ⟨_, _, h3, _⟩ := pu_parts hs h hp
  have hin := hs
  have hrng := st_rng h
  refine st_zero (pu_okRgs hs h hp) ?_ ?_ ?_
  · have e1 : dupG (putT s e) = dupG s := by
      simp only [dupG, pu_nG hs h hp, pu_lab hs h hp]
    rw [e1, hd]
  · simp only [rngG, hr2, hr3, hr4, Bool.or_eq_false_iff, ltB_false, arr1]; omega
  · obtain ⟨n1, n2, n3⟩ := nu_ok hn
    refine nu_0 ?_ ?_ ?_
    · rw [pu_mrg hs h hp, List.any_eq_false]
      intro x hx
      simp only [lateG, hr2, hr3, Bool.or_eq_true, ltB_true, not_or, arr1]
      rcases List.mem_append.1 hx with hx | hx
      · have := mrg_key hs h hp hx
        have e0 : keyO x = (x.nth 1).int := rfl
        omega
      · rw [List.mem_singleton] at hx; subst hx
        have e1 : ((newE s e).nth 1).int = arr1 s := rfl
        have e2 : ((newE s e).nth 2).int = (s.nth 2).int := rfl
        rw [e1, e2, arr1]; omega
    · have hlast : (((newE s e).nth 1).int == (((mrg s).getLastD (D0 storedS)).nth 1).int || ltB ((newE s e).nth 2).int (((mrg s).getLastD (D0 storedS)).nth 2).int) = false := by
        have e1 : ((newE s e).nth 1).int = arr1 s := rfl
        have e2 : ((newE s e).nth 2).int = (s.nth 2).int := rfl
        rw [e1, e2, Bool.or_eq_false_iff, beq_eq_false_iff_ne, ltB_false, arr1]
        by_cases hne : mrg s = []
        · rw [hne]
          show (s.nth 1).int + 1 ≠ 0 ∧ 0 ≤ (s.nth 2).int
          omega
        · have := mrg_key hs h hp (getLastD_mem (d := D0 storedS) hne)
          have e0 : keyO ((mrg s).getLastD (D0 storedS)) = (((mrg s).getLastD (D0 storedS)).nth 1).int := rfl
          omega
      rw [pu_mrg hs h hp]
      exact anyR_no fun k hk => adj_snoc (adjL_no n2) hlast k (by omega)
    · rw [pu_mrg hs h hp, List.any_eq_false]
      intro x hx
      rcases List.mem_append.1 hx with hx | hx
      · rw [List.any_eq_false] at n3
        have := n3 x hx
        rw [oldG, hr3, hr4]; exact this
      · rw [List.mem_singleton] at hx; subst hx
        have e2 : ((newE s e).nth 2).int = (s.nth 2).int := rfl
        rw [oldG, hr3, hr4, e2, wrap_u64 (by omega) (by omega)]
        simp only [leB_true]; omega
end
end Go.Proofs.Ytpfpgjkbnjnjnaa

namespace Go.Proofs.Ytpfpgjkbnjnjnaa
open Go Go.Vm Rg
set_option linter.unusedSimpArgs false
set_option linter.unusedVariables false
set_option maxRecDepth 10000
set_option linter.unusedSectionVars false
theorem cntUp_true {p : Nat → Bool} : ∀ {m i : Nat}, ∀ k, i ≤ k → k < i + cntUp p m i → p k = true
  | 0, i, k, h1, h2 => by simp [cntUp] at h2; omega
  | m + 1, i, k, h1, h2 => by
    simp only [cntUp] at h2
    split at h2
    · rename_i hp
      rcases Nat.eq_or_lt_of_le h1 with rfl | h
      · exact hp
      · exact cntUp_true (p := p) (m := m) (i := i + 1) k (by omega) (by omega)
    · omega
theorem cntUp_stop {p : Nat → Bool} : ∀ {m i : Nat}, cntUp p m i = m ∨ p (i + cntUp p m i) = false
  | 0, i => .inl rfl
  | m + 1, i => by
    simp only [cntUp]
    split
    · rcases cntUp_stop (p := p) (m := m) (i := i + 1) with h | h
      · exact .inl (by omega)
      · exact .inr (by rw [show i + (cntUp p m (i + 1) + 1) = i + 1 + cntUp p m (i + 1) by omega]; exact h)
    · rename_i hp
      exact .inr (by simpa using hp)
/-- In order by what they are, neighbours in order are all in order. -/
theorem mono_of_adj {f : D → Int} {l : List D} (h : ∀ i, i + 1 < l.length → f (l.getD i .Z) ≤ f (l.getD (i + 1) .Z)) : l.Pairwise fun a b => f a ≤ f b := by
  rw [List.pairwise_iff_getElem]
  intro i j hi hj hij
  have step : ∀ n, ∀ i, i + n + 1 < l.length → f (l.getD i .Z) ≤ f (l.getD (i + n + 1) .Z) := by
    intro n
    induction n with
    | zero => intro i hi; exact h i hi
    | succ n ih =>
      intro i hi
      have h1 := ih i (by omega)
      have h2 := h (i + n + 1) (by omega)
      have e : i + (n + 1) + 1 = i + n + 1 + 1 := by omega
      rw [e]; omega
  have := step (j - i - 1) i (by omega)
  have e : i + (j - i - 1) + 1 = j := by omega
  rw [e] at this
  rw [List.getD_eq_getElem?_getD, List.getD_eq_getElem?_getD, List.getElem?_eq_getElem hi, List.getElem?_eq_getElem hj] at this
  exact this
theorem adj_of_mono {f : D → Int} {l : List D} (h : l.Pairwise fun a b => f a ≤ f b) {i j : Nat} (hij : i < j) (hj : j < l.length) : f (l.getD i .Z) ≤ f (l.getD j .Z) := by
  have := List.pairwise_iff_getElem.1 h i j (by omega) hj hij
  rw [List.getD_eq_getElem?_getD, List.getD_eq_getElem?_getD, List.getElem?_eq_getElem (by omega), List.getElem?_eq_getElem hj]
  exact this
def tkO (x : D) : Int := (x.nth 2).int
def yng (now hor : Int) (x : D) : Bool := !leB (IntKind.u64.wrap ((x.nth 2).int + hor)) now
theorem yng_eq {now hor : Int} {x : D} (h1 : 0 ≤ (x.nth 2).int) (h2 : (x.nth 2).int ≤ 1099511627776) (h3 : 1 ≤ hor) (h4 : hor ≤ 10000) : yng now hor x = ltB now ((x.nth 2).int + hor) := by
  rw [yng, wrap_u64 (by omega) (by omega), Bool.eq_iff_iff]
  simp only [Bool.not_eq_true', leB_false, ltB_true]
theorem filter_drop {l : List D} {p : D → Bool} {n : Nat} (hn : n ≤ l.length) (h1 : ∀ k, k < n → p (l.getD k .Z) = false) (h2 : ∀ k, n ≤ k → k < l.length → p (l.getD k .Z) = true) : l.filter p = l.drop n := by
  conv => lhs; rw [← List.take_append_drop n l]
  rw [List.filter_append]
  have e1 : (l.take n).filter p = [] := by
    rw [List.filter_eq_nil_iff]
    intro x hx
    obtain ⟨k, hk, rfl⟩ := mem_getD hx
    rw [List.length_take] at hk
    rw [List.getD_eq_getElem?_getD, List.getElem?_take_of_lt (by omega), ← List.getD_eq_getElem?_getD, h1 k (by omega)]; decide
  have e2 : (l.drop n).filter p = l.drop n := by
    rw [List.filter_eq_self]
    intro x hx
    obtain ⟨k, hk, rfl⟩ := mem_getD hx
    rw [List.length_drop] at hk
    rw [List.getD_eq_getElem?_getD, List.getElem?_drop, ← List.getD_eq_getElem?_getD]
    exact h2 _ (by omega) (by omega)
  rw [e1, e2, List.nil_append]
theorem evs_ticks {r : D} (h : chk r = 0) : (evs r).Pairwise fun a b => tkO a ≤ tkO b := by
  refine mono_of_adj fun i hi => ?_
  rw [evs_len] at hi
  rw [evs_get (by omega), evs_get hi]
  have := evF_zero (bef_evs h hi)
  exact this.2.2.2.2.2.2.2.2
theorem evs_old {r : D} (h : chk r = 0) {now hor : Int} (h3 : 1 ≤ hor) (h4 : hor ≤ 10000) : evs (evR r (evN r now hor)) = (evs r).filter (yng now hor) := by
  have hb := chk_bad h
  have hn : evN r now hor ≤ cap r := cntUp_le
  have hpos : ∀ k, k < cap r → 0 ≤ tkO (evAt r k) ∧ tkO (evAt r k) ≤ 1099511627776 := fun k hk => by
    have h1 := tick_nonneg (chk_er0 h) k hk
    have h2 := evF_zero (bef_evs h hk)
    exact ⟨h1, h2.2.2.2.2.2.2.1⟩
  have hy : ∀ k, k < cap r → yng now hor (evAt r k) = !oldB r now hor k := fun k hk => rfl
  have e1 : evs (evR r (evN r now hor)) = (evs r).drop (evN r now hor) := by
    rw [evs, cap_evR hn, evs, lst, lst, ← List.map_drop]
    apply List.ext_getElem
    · simp
    · intro i h1 h2
      simp only [List.length_map, List.length_range] at h1
      simp only [List.getElem_map, List.getElem_range, List.getElem_drop]
      exact evAt_evR hb (by omega)
  rw [e1]
  refine (filter_drop (by rw [evs_len]; exact hn) (fun k hk => ?_) (fun k hk1 hk2 => ?_)).symm
  · rw [evs_get (by omega), hy k (by omega)]
    have := cntUp_true (p := oldB r now hor) (m := cap r) (i := 0) k (by omega) (by rw [Nat.zero_add]; exact hk)
    rw [this]; rfl
  · rw [evs_len] at hk2
    rw [evs_get hk2]
    rcases cntUp_stop (p := oldB r now hor) (m := cap r) (i := 0) with hs | hs
    · have : evN r now hor = cap r := hs
      omega
    · rw [Nat.zero_add] at hs
      have hlt : evN r now hor < cap r := by omega
      have hs2 : yng now hor (evAt r (evN r now hor)) = true := by
        rw [hy _ hlt, show oldB r now hor (evN r now hor) = false from hs]; rfl
      rcases Nat.eq_or_lt_of_le hk1 with e | hk3
      · rw [← e]; exact hs2
      · have hm := adj_of_mono (evs_ticks h) hk3 (by rw [evs_len]; exact hk2)
        rw [evs_get hlt, evs_get hk2] at hm
        have p1 := hpos _ hlt
        have p2 := hpos _ hk2
        rw [yng_eq p1.1 p1.2 h3 h4] at hs2
        rw [yng_eq p2.1 p2.2 h3 h4]
        simp only [ltB_true] at hs2 ⊢
        simp only [tkO] at hm
        omega
section
variable {s : D} (hs : 0 ≤ (s.nth 1).int ∧ 0 ≤ (s.nth 2).int ∧ 0 ≤ (s.nth 3).int) (h : stE s = 0) (hp : tickE s = 0)
include hs h hp
theorem ti_top : (s.nth 2).int < 1099511627776 := by
  rw [tickE, ite0 h] at hp
  split at hp
  · cases hp
  · rename_i h1; simpa using h1
theorem ti_rgs : rgs (tickT s) = (List.range (nG s)).map (tickRg s) ∧ (tickT s).nth 1 = s.nth 1 ∧ ((tickT s).nth 2).int = now1 s ∧ (tickT s).nth 3 = s.nth 3 := by
  rw [← (ti_ok hp).1]
  refine ⟨?_, rfl, rfl, rfl⟩
  show tickL s (nG s) = _
  have : nG s = (rgs s).length := rfl
  rw [tickL, List.drop_of_length_le (by omega), List.append_nil]
theorem ti_nG : nG (tickT s) = nG s := by
  rw [nG, (ti_rgs hs h hp).1, List.length_map, List.length_range]
theorem ti_at (i : Nat) (hi : i < nG s) : rgAt (tickT s) i = tickRg s i := by
  rw [rgAt, (ti_rgs hs h hp).1, List.getD_eq_getElem?_getD, List.getElem?_map, List.getElem?_range hi]; rfl
theorem ti_lab (i : Nat) : labG (tickT s) i = labG s i := by
  rw [labG, labG]
  by_cases hi : i < nG s
  · rw [ti_at hs h hp i hi, tickRg, (evR_0 _ _).1]
  · have h1 : rgAt (tickT s) i = .Z := by
      rw [rgAt, List.getD_eq_getElem?_getD, List.getElem?_eq_none (by have := ti_nG hs h hp; show nG (tickT s) ≤ i; omega)]; rfl
    have h2 : rgAt s i = .Z := by
      rw [rgAt, List.getD_eq_getElem?_getD, List.getElem?_eq_none (by show nG s ≤ i; omega)]; rfl
    rw [h1, h2]
theorem ti_okRgs : okRgs (tickT s) := by
  have hok := (st_ok h).1
  refine ⟨by rw [ti_nG hs h hp]; exact hok.1, fun i hi => ?_⟩
  rw [ti_nG hs h hp] at hi
  rw [ti_at hs h hp i hi]
  exact chk_evR (hok.2 i hi) cntUp_le
theorem ti_flat : flat (lsts (tickT s)) = (flat (lsts s)).filter (yng (now1 s) (s.nth 3).int) := by
  have hok := (st_ok h).1
  have hr := st_rng h
  have e1 : rgs s = (List.range (nG s)).map (rgAt s) := by
    apply List.ext_getElem
    · simp; rfl
    · intro i h1 h2
      simp only [List.getElem_map, List.getElem_range, rgAt, List.getD_eq_getElem?_getD, List.getElem?_eq_getElem h1]; rfl
  rw [flat, flat, lsts, lsts, (ti_rgs hs h hp).1, List.filter_flatten]
  conv => rhs; rw [e1]
  rw [List.map_map, List.map_map, List.map_map]
  congr 1
  refine List.map_congr_left fun i hi => ?_
  exact evs_old (hok.2 i (by simpa using hi)) hr.2.2.1 hr.2.2.2
theorem ti_mrg : mrg (tickT s) = (mrg s).filter (yng (now1 s) (s.nth 3).int) := by
  have hst : Strict keyO ((mrg s).filter (yng (now1 s) (s.nth 3).int)) := (mrg_strict (st_adj h)).sublist List.filter_sublist
  have hperm : ((mrg s).filter (yng (now1 s) (s.nth 3).int)).Perm (flat (lsts (tickT s))) := by
    rw [ti_flat hs h hp]; exact (srt_perm _).filter _
  exact (srt_eq ((hperm.map keyO).nodup_iff.1 (strict_nodup hst)) hperm (hst.imp fun h => by omega)).symm
theorem ti_right : stE (tickT s) = 0 := by
  obtain ⟨_, hd, hr, hn⟩ := st_ok h
  obtain ⟨hr1, hr2, hr3, hr4⟩ := ti_rgs hs h hp
  have htop := ti_top hs h hp
  have hin := hs
  have hrng := st_rng h
  refine st_zero (ti_okRgs hs h hp) ?_ ?_ ?_
  · have e1 : dupG (tickT s) = dupG s := by
      simp only [dupG, ti_nG hs h hp, ti_lab hs h hp]
    rw [e1, hd]
  · simp only [rngG, hr2, hr3, hr4, Bool.or_eq_false_iff, ltB_false, now1]; omega
  · obtain ⟨n1, n2, n3⟩ := nu_ok hn
    have hmono : (mrg s).Pairwise fun a b => tkO a ≤ tkO b := mono_of_adj fun i hi => by
      have := adjL_no n2 i hi
      rw [adjB, Bool.or_eq_false_iff, ltB_false] at this
      exact this.2
    refine nu_0 ?_ ?_ ?_
    · rw [ti_mrg hs h hp, List.any_eq_false]
      intro x hx
      rw [List.any_eq_false] at n1
      have := n1 x ((List.mem_filter.1 hx).1)
      simp only [lateG, hr2, hr3, Bool.or_eq_true, ltB_true, not_or, now1] at this ⊢
      omega
    · rw [ti_mrg hs h hp]
      have hst : Strict keyO ((mrg s).filter (yng (now1 s) (s.nth 3).int)) := (mrg_strict (st_adj h)).sublist List.filter_sublist
      have hmo := hmono.sublist (List.filter_sublist (p := yng (now1 s) (s.nth 3).int))
      refine anyR_no fun k hk => ?_
      have h1 := adj_of_mono hmo (i := k) (j := k + 1) (by omega) (by omega)
      have h2 := adj_of_mono (f := keyO) (hst.imp fun h => by omega) (i := k) (j := k + 1) (by omega) (by omega)
      have h3 : keyO (((mrg s).filter (yng (now1 s) (s.nth 3).int)).getD (k + 1) .Z) ≠ keyO (((mrg s).filter (yng (now1 s) (s.nth 3).int)).getD k .Z) := by
        have := List.pairwise_iff_getElem.1 hst k (k + 1) (by omega) (by omega) (by omega)
        rw [List.getD_eq_getElem?_getD, List.getD_eq_getElem?_getD, List.getElem?_eq_getElem (by omega), List.getElem?_eq_getElem (by omega)]
        simp only [Option.getD_some]; omega
      rw [adjB, Bool.or_eq_false_iff, beq_eq_false_iff_ne, ltB_false]
      exact ⟨h3, h1⟩
    · rw [ti_mrg hs h hp, List.any_eq_false]
      intro x hx
      have := (List.mem_filter.1 hx).2
      rw [oldG, hr3, hr4]
      rw [yng] at this
      simpa using this
end
end Go.Proofs.Ytpfpgjkbnjnjnaa
