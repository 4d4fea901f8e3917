/- Stores in plain Lean: what was put, and what is left of it. -/
import Derived.Test.YtelemmagiagohaaWTr
namespace Go.Proofs.Ytelemmagiagohaa
open Go Go.Vm Rg
set_option linter.unusedSimpArgs false
set_option linter.unusedVariables false
set_option maxRecDepth 10000
/-- How many of the first j have the label L. -/
def cnt (l : List D) (j : Nat) (L : Int) : Nat := ((l.take j).filter fun y => lbS y == L).length
theorem cnt_app {l : List D} {x : D} {j : Nat} (h : j ≤ l.length) (L : Int) : cnt (l ++ [x]) j L = cnt l j L := by
  rw [cnt, cnt, List.take_append_of_le_length h]
theorem cnt_last (l : List D) (x : D) (L : Int) : cnt (l ++ [x]) (l.length + 1) L = cnt l l.length L + if lbS x = L then 1 else 0 := by
  have e : (l ++ [x]).take (l.length + 1) = l ++ [x] := List.take_of_length_le (by simp)
  rw [cnt, cnt, e, List.take_length, List.filter_append, List.length_append]
  by_cases h : lbS x = L
  · rw [if_pos h]; simp [h]
  · rw [if_neg h]; simp [h]
structure Hist (x : D × List D) (hor : Int) : Prop where
  horE : (x.1.nth 3).int = hor
  arr : (x.1.nth 1).int = x.2.length
  mrgE : mrg x.1 = x.2.filter (yng (x.1.nth 2).int hor)
  key : ∀ j, j < x.2.length → keyO (x.2.getD j .Z) = j + 1
  tk : ∀ j, j < x.2.length → 0 ≤ tkO (x.2.getD j .Z) ∧ tkO (x.2.getD j .Z) ≤ (x.1.nth 2).int
  kd : ∀ j, j < x.2.length → evC (.L [.Z, (x.2.getD j .Z).nth 3]) = 0
  no : ∀ j, j < x.2.length → noS (x.2.getD j .Z) = 1 + cnt x.2 j (lbS (x.2.getD j .Z))
  lb : ∀ j, j < x.2.length → ∃ g, g < nG x.1 ∧ lbS (x.2.getD j .Z) = labG x.1 g
  nxt : ∀ g, g < nG x.1 → ((rgAt x.1 g).nth 3).int = 1 + cnt x.2 x.2.length (labG x.1 g)
theorem yng_le {now hor : Int} {x : D} (h : yng (now + 1) hor x = true) : yng now hor x = true := by
  simp only [yng, Bool.not_eq_true', leB_false] at h ⊢; omega
theorem getD_snoc_l {l : List D} {x : D} {j : Nat} (h : j < l.length) : (l ++ [x]).getD j .Z = l.getD j .Z := getD_app_l h
theorem getD_snoc_r {l : List D} {x : D} : (l ++ [x]).getD l.length .Z = x := getD_app_r
theorem hist_tick {x : D × List D} {hor : Int} {i : Nat} (H : Hist x hor) (I : InvM x i) (hi : i ≤ 30) : Hist (tickT x.1, x.2) hor := by
  have ht := I.tickE hi
  obtain ⟨h1, h2, h3, h4⟩ := ti_rgs I.nn I.ok ht
  have e3 : ((tickT x.1).nth 2).int = (x.1.nth 2).int + 1 := h3
  refine ⟨by rw [h4]; exact H.horE, by rw [h2]; exact H.arr, ?_, H.key, fun j hj => ?_, H.kd, H.no, fun j hj => ?_, fun g hg => ?_⟩
  · show Go.Proofs.Ytelemmagiagohaa.mrg (tickT x.1) = x.2.filter (yng ((tickT x.1).nth 2).int hor)
    rw [ti_mrg I.nn I.ok ht, H.mrgE, List.filter_filter, H.horE, e3, now1]
    refine List.filter_congr fun y _ => ?_
    cases hy : yng ((x.1.nth 2).int + 1) hor y with
    | false => simp
    | true => rw [yng_le hy]; rfl
  · have := H.tk j hj
    show 0 ≤ tkO (x.2.getD j .Z) ∧ tkO (x.2.getD j .Z) ≤ ((tickT x.1).nth 2).int
    rw [e3]; omega
  · obtain ⟨g, hg, hl⟩ := H.lb j hj
    exact ⟨g, by show g < nG (tickT x.1); rw [ti_nG I.nn I.ok ht]; exact hg, by show _ = labG (tickT x.1) g; rw [ti_lab I.nn I.ok ht]; exact hl⟩
  · have hg2 : g < nG x.1 := by have hg : g < nG (tickT x.1) := hg; rw [ti_nG I.nn I.ok ht] at hg; exact hg
    show ((rgAt (tickT x.1) g).nth 3).int = 1 + cnt x.2 x.2.length (labG (tickT x.1) g)
    rw [ti_at I.nn I.ok ht g hg2, tickRg, (evR_0 _ _).2.2.1, ti_lab I.nn I.ok ht]
    exact H.nxt g hg2
theorem hist_put {x : D × List D} {hor : Int} {i : Nat} {e : D} (H : Hist x hor) (I : InvM x i) (hp : putTE x.1 e = 0) : Hist (putT x.1 e, x.2 ++ [putX x.1 e]) hor := by
  obtain ⟨h1, h2, h3, h4⟩ := pu_rgs I.nn I.ok hp
  obtain ⟨p1, p2, p3, p4⟩ := pu_parts I.nn I.ok hp
  obtain ⟨hok, hd, _, _⟩ := st_ok I.ok
  have hc := (cN_lt p2).2.2.2
  have hlab := cI_is hc
  have hrng := st_rng I.ok
  have hn := I.nn
  have eX : putX x.1 e = newE x.1 e := (pu_ok hp).2.1.symm
  have elb : lbS (newE x.1 e) = labG x.1 (cI x.1 (labE e)) := rfl
  have eno : noS (newE x.1 e) = ((rgAt x.1 (cI x.1 (labE e))).nth 3).int := rfl
  rw [eX]
  have hcase : ∀ j, j < (x.2 ++ [newE x.1 e]).length → j < x.2.length ∨ j = x.2.length := fun j hj => by
    rw [List.length_append, List.length_singleton] at hj; omega
  have e2 : ((putT x.1 e).nth 1).int = (x.1.nth 1).int + 1 := h2
  refine ⟨by rw [h4]; exact H.horE, ?_, ?_, fun j hj => ?_, fun j hj => ?_, fun j hj => ?_, fun j hj => ?_, fun j hj => ?_, fun g hg => ?_⟩
  · show ((putT x.1 e).nth 1).int = (x.2 ++ [newE x.1 e]).length
    rw [e2, H.arr, List.length_append]; simp
  · show Go.Proofs.Ytelemmagiagohaa.mrg (putT x.1 e) = (x.2 ++ [newE x.1 e]).filter (yng ((putT x.1 e).nth 2).int hor)
    rw [pu_mrg I.nn I.ok hp, H.mrgE, h3, List.filter_append]
    congr 1
    have hy : yng (x.1.nth 2).int hor (newE x.1 e) = true := by
      have et : ((newE x.1 e).nth 2).int = (x.1.nth 2).int := rfl
      have := H.horE
      rw [yng_eq (by rw [et]; omega) (by rw [et]; omega) (by omega) (by omega), et]
      simp only [ltB_true]; omega
    rw [List.filter_cons, if_pos hy]; rfl
  all_goals try rcases hcase j hj with hj' | rfl
  all_goals first | rw [getD_snoc_l hj'] | rw [getD_snoc_r] | skip
  all_goals try dsimp only
  · exact H.key j hj'
  · show (x.1.nth 1).int + 1 = _
    rw [H.arr]
  · have := H.tk j hj'
    rw [h3]; exact this
  · show 0 ≤ (x.1.nth 2).int ∧ (x.1.nth 2).int ≤ ((putT x.1 e).nth 2).int
    rw [h3]; omega
  · exact H.kd j hj'
  · exact p1
  · rw [cnt_app (by omega)]; exact H.no j hj'
  · rw [cnt_app (Nat.le_refl _), eno, elb]; exact H.nxt _ hc
  · obtain ⟨g, hg, hl⟩ := H.lb j hj'
    exact ⟨g, by rw [pu_nG I.nn I.ok hp]; exact hg, by rw [pu_lab I.nn I.ok hp]; exact hl⟩
  · exact ⟨_, by rw [pu_nG I.nn I.ok hp]; exact hc, by rw [pu_lab I.nn I.ok hp]; exact elb⟩
  · have hg2 : g < nG x.1 := by have hg : g < nG (putT x.1 e) := hg; rw [pu_nG I.nn I.ok hp] at hg; exact hg
    rw [pu_at I.nn I.ok hp g hg2, pu_lab I.nn I.ok hp, List.length_append, List.length_singleton, cnt_last, elb]
    have hx := H.nxt g hg2
    by_cases hgc : g = cI x.1 (labE e)
    · rw [if_pos hgc, hgc, if_pos rfl, (putD_0 _ _).2.2.2]
      have hx2 : ((rgE x.1 e).nth 3).int = 1 + cnt x.2 x.2.length (labG x.1 (cI x.1 (labE e))) := by rw [← hgc]; rw [hgc] at hx ⊢; exact hx
      rw [hx2]; omega
    · rw [if_neg hgc, if_neg fun (e' : labG x.1 (cI x.1 (labE e)) = labG x.1 g) => hgc (lab_inj hd hc hg2 e'.symm), hx]; simp
theorem hist_new {c : D} (h : Cf.chE c = 0) : Hist (newT c, []) (c.nth 3).int := by
  obtain ⟨h1, h2, h3, h4⟩ := nt_rgs h
  refine ⟨h4, h2, nt_mrg h, fun j hj => by simp at hj, fun j hj => by simp at hj, fun j hj => by simp at hj, fun j hj => by simp at hj, fun j hj => by simp at hj, fun g hg => ?_⟩
  have hg2 : g < Cf.nC c := by have hg : g < nG (newT c) := hg; rw [nt_nG h] at hg; exact hg
  have hz : (ltB (Cf.sizeAt c g) 1 || ltB 64 (Cf.sizeAt c g)) = false := nw_size h hg2
  show ((rgAt (newT c) g).nth 3).int = 1 + ((0 : Nat) : Int)
  rw [nt_at h hg2, newR, if_neg (by rw [hz]; decide)]; rfl
theorem hist_mkR {x : D × List D} {hor : Int} {i : Nat} (H : Hist x hor) (I : InvM x i) (hi : i ≤ 30) (k : Int) : Hist (mkR k x) hor := by
  unfold mkR
  split
  · exact hist_tick H I hi
  split
  · rename_i hp; exact hist_put H I hp
  · exact H
theorem hist_mdR {c : D} (h : Cf.chE c = 0) (n : List D) : ∀ {i : Nat}, i ≤ 30 → Hist (mdR c n i) (c.nth 3).int
  | 0, _ => hist_new h
  | i + 1, hi => hist_mkR (hist_mdR h n (i := i) (by omega)) (inv_mdR h n (by omega)) (by omega) _
/-! ### Getting what was put -/
theorem cnt_lt {l : List D} {L : Int} {i j : Nat} (hij : i < j) (hj : j ≤ l.length) (h : lbS (l.getD i .Z) = L) : cnt l i L < cnt l j L := by
  have e : l.take j = l.take i ++ (l.drop i).take (j - i) := by
    rw [← List.take_add]; congr 1; omega
  rw [cnt, cnt, e, List.filter_append, List.length_append]
  have hm : l.getD i .Z ∈ (l.drop i).take (j - i) := by
    rw [List.getD_eq_getElem?_getD, List.getElem?_eq_getElem (by omega)]
    refine List.mem_take_iff_getElem.2 ⟨0, by simp; omega, by simp⟩
  have : 0 < (((l.drop i).take (j - i)).filter fun y => lbS y == L).length :=
    List.length_pos_iff.2 (List.ne_nil_of_mem (List.mem_filter.2 ⟨hm, by simpa using h⟩))
  omega
theorem hist_id {x : D × List D} {hor : Int} (H : Hist x hor) {i j : Nat} (hi : i < x.2.length) (hj : j < x.2.length) (hl : lbS (x.2.getD i .Z) = lbS (x.2.getD j .Z)) (hn : noS (x.2.getD i .Z) = noS (x.2.getD j .Z)) : i = j := by
  rw [H.no i hi, H.no j hj, hl] at hn
  rcases Nat.lt_trichotomy i j with h1 | h1 | h1
  · have := cnt_lt h1 (by omega) hl; omega
  · exact h1
  · have := cnt_lt h1 (by omega) (rfl : lbS (x.2.getD j .Z) = _); omega
end Go.Proofs.Ytelemmagiagohaa
