/- Accounts of configurations: what lies below two labels. -/
import Derived.Test.YtjcfnooplhoheaaWCy
namespace Go.Proofs.Ytjcfnooplhoheaa
open Go Go.Vm
set_option linter.unusedSimpArgs false
set_option linter.unusedVariables false
set_option maxRecDepth 10000
theorem sel_map (p : Nat → Bool) (f : Nat → D) : ∀ n, sel p f n = ((List.range n).filter p).map f
  | 0 => rfl
  | n + 1 => by
    rw [sel, sel_map p f n, List.range_succ, List.filter_append, List.map_append]
    congr 1
    by_cases h : p n = true <;> simp [h]
theorem list_range (l : List D) : (List.range l.length).map (fun i => l.getD i .Z) = l := by
  apply List.ext_getElem?
  intro i
  rw [List.getElem?_map]
  by_cases h : i < l.length
  · rw [List.getElem?_range h, List.getElem?_eq_getElem h]
    simp [List.getD_eq_getElem?_getD, List.getElem?_eq_getElem h]
  · rw [List.getElem?_eq_none (by simpa using h), List.getElem?_eq_none (by omega)]; rfl
/-- Choosing by place is choosing by element. -/
theorem sel_filter (l : List D) (q : D → Bool) : sel (fun i => q (l.getD i .Z)) (fun i => l.getD i .Z) l.length = l.filter q := by
  rw [sel_map]
  conv => rhs; rw [← list_range l]
  rw [List.filter_map]
  rfl
def seesC (L : Int) (x : D) : Bool := belowB (x.nth 0).int L
def seesR (L : Int) (x : D) : Bool := belowB (x.nth 1).int L
theorem belC_f {c : D} {L : Int} (h : chE c = 0) : belC c L = .L [.L ((cls c).filter (seesC L)), c.nth 1, .L ((rls c).filter (seesR L)), c.nth 3] := by
  rw [belC_0 h]
  have e1 : sel (seeB c L) (clsAt c) (nC c) = (cls c).filter (seesC L) := sel_filter (cls c) (seesC L)
  have e2 : sel (seeR c L) (rlsAt c) (nR c) = (rls c).filter (seesR L) := sel_filter (rls c) (seesR L)
  rw [e1, e2]
theorem labsOf_f (c : D) (L : Int) : labsOf c L = ((cls c).filter (seesC L)).map fun x => .I (x.nth 0).int := by
  have e1 : sel (seeB c L) (clsAt c) (nC c) = (cls c).filter (seesC L) := sel_filter (cls c) (seesC L)
  rw [← e1, sel_map, labsOf, sel_map, List.map_map]
  rfl
/-- What it is to be right, element by element. -/
theorem right_iff {c : D} : chE c = 0 ↔ fullB c = false ∧ (∀ x ∈ cls c, clBad x = false) ∧ ((cls c).map fun x => (x.nth 0).int).Nodup ∧ (∀ k, k < 6 → tnE c k = 0) ∧ (∀ x ∈ rls c, ruF x = 0) ∧ horBad c = false := by
  rw [ch_ok]
  have get : ∀ (l : List D) (k : Nat), k < l.length → l.getD k .Z ∈ l := fun l k hk => by
    rw [List.getD_eq_getElem?_getD, List.getElem?_eq_getElem hk]; exact List.getElem_mem hk
  have back : ∀ (l : List D) (x : D), x ∈ l → ∃ k, k < l.length ∧ l.getD k .Z = x := fun l x hx => by
    obtain ⟨k, hk, e⟩ := List.getElem_of_mem hx
    exact ⟨k, hk, by rw [List.getD_eq_getElem?_getD, List.getElem?_eq_getElem hk]; exact e⟩
  have cl0 : ∀ k, clE c k = 0 ↔ clBad (clsAt c k) = false ∧ dupL (cls c) k = false := fun k => by
    show clEL (cls c) k = 0 ↔ clBad ((cls c).getD k .Z) = false ∧ _
    rw [clEL]
    cases clBad ((cls c).getD k .Z) <;> cases dupL (cls c) k <;> simp
  have nd : (∀ k, k < nC c → dupL (cls c) k = false) ↔ ((cls c).map fun x => (x.nth 0).int).Nodup := by
    rw [List.Nodup, List.pairwise_map, List.pairwise_iff_getElem]
    have lb : ∀ k (h : k < (cls c).length), labL (cls c) k = (((cls c)[k]).nth 0).int := fun k h => by
      rw [labL, List.getD_eq_getElem?_getD, List.getElem?_eq_getElem h]; rfl
    constructor
    · intro h i j hi hj hij e
      have h1 := h j hj
      simp only [dupL, List.any_eq_false, List.mem_range, beq_iff_eq] at h1
      exact h1 i hij (by rw [lb i hi, lb j hj]; exact e)
    · intro h k hk
      simp only [dupL, List.any_eq_false, List.mem_range, beq_iff_eq]
      intro i hi e
      have hi' : i < (cls c).length := Nat.lt_trans hi hk
      exact h i k hi' hk hi (by rw [← lb i hi', ← lb k hk]; exact e)
  constructor
  · rintro ⟨h1, h2, h3, h4, h5⟩
    refine ⟨h1, fun x hx => ?_, nd.1 fun k hk => ((cl0 k).1 (h2 k hk)).2, h3, fun x hx => ?_, h5⟩
    · obtain ⟨k, hk, rfl⟩ := back _ _ hx
      exact ((cl0 k).1 (h2 k hk)).1
    · obtain ⟨k, hk, rfl⟩ := back _ _ hx
      exact h4 k hk
  · rintro ⟨h1, h2, h3, h4, h5, h6⟩
    exact ⟨h1, fun k hk => (cl0 k).2 ⟨h2 _ (get _ k hk), nd.2 h3 k hk⟩, h4, fun k hk => h5 _ (get _ k hk), h6⟩
/-- What lies below a label is right. -/
theorem belC_right {c : D} (h : chE c = 0) (L : Int) : chE (belC c L) = 0 := by
  have hb := belC_f (L := L) h
  rw [right_iff] at h ⊢
  obtain ⟨h1, h2, h3, h4, h5, h6⟩ := h
  have ec : cls (belC c L) = (cls c).filter (seesC L) := by rw [hb]; rfl
  have er : rls (belC c L) = (rls c).filter (seesR L) := by rw [hb]; rfl
  have et : (belC c L).nth 1 = c.nth 1 := by rw [hb]; rfl
  have eh : (belC c L).nth 3 = c.nth 3 := by rw [hb]; rfl
  refine ⟨?_, ?_, ?_, ?_, ?_, ?_⟩
  · have a1 : nC (belC c L) ≤ nC c := by rw [nC, ec]; exact List.length_filter_le _ _
    have a2 : nR (belC c L) ≤ nR c := by rw [nR, er]; exact List.length_filter_le _ _
    simp only [fullB, Bool.or_eq_false_iff, ltB_false] at h1 ⊢
    omega
  · intro x hx
    rw [ec] at hx
    exact h2 x (List.mem_filter.1 hx).1
  · rw [ec]
    exact h3.sublist ((List.filter_sublist).map _)
  · intro k hk
    rw [tnE, et]; exact h4 k hk
  · intro x hx
    rw [er] at hx
    exact h5 x (List.mem_filter.1 hx).1
  · rw [horBad, eh]; exact h6
theorem chA_0 {c : D} (h : chE c = 0) : chA c = 0 := by
  obtain ⟨h1, h2, h3, h4, _⟩ := ch_ok.1 h
  exact (ch_hor h1 h2 h3 h4).2
theorem belC_bel {c : D} (h : chE c = 0) (a b : Int) : belC (belC c a) b = belC c (bitsOp .and .u64 a b) := by
  rw [belC_f (belC_right h a), belC_f h (L := bitsOp .and .u64 a b)]
  have ec : cls (belC c a) = (cls c).filter (seesC a) := by rw [belC_f h]; rfl
  have er : rls (belC c a) = (rls c).filter (seesR a) := by rw [belC_f h]; rfl
  have et : (belC c a).nth 1 = c.nth 1 := by rw [belC_f h]; rfl
  have eh : (belC c a).nth 3 = c.nth 3 := by rw [belC_f h]; rfl
  rw [ec, er, et, eh, List.filter_filter, List.filter_filter]
  have e1 : (fun x => seesC b x && seesC a x) = seesC (bitsOp .and .u64 a b) := by
    funext x; simp only [seesC]; rw [belowB_and, Bool.and_comm]
  have e2 : (fun x => seesR b x && seesR a x) = seesR (bitsOp .and .u64 a b) := by
    funext x; simp only [seesR]; rw [belowB_and, Bool.and_comm]
  rw [e1, e2]
theorem belC_twice {c : D} (h : chE c = 0) (a : Int) : belC (belC c a) a = belC c a := by
  rw [belC_f (belC_right h a), belC_f h (L := a)]
  show D.L [.L (List.filter (seesC a) ((cls c).filter (seesC a))), c.nth 1, .L (List.filter (seesR a) ((rls c).filter (seesR a))), c.nth 3] = _
  rw [List.filter_filter, List.filter_filter]
  simp only [Bool.and_self]
theorem labS_bel {c : D} (h : chE c = 0) (a : Int) : labS (belC c a) 18446744073709551615 = labS c a := by
  rw [labS, labS, if_neg (by simp [belC_right h a]), if_neg (by simp [h]), labsOf_f, labsOf_f]
  have ec : cls (belC c a) = (cls c).filter (seesC a) := by rw [belC_f h]; rfl
  have e1 : ∀ l : List D, l.filter (seesC 18446744073709551615) = l := fun l => List.filter_eq_self.2 fun x _ => belowB_all1 _
  rw [e1, ec]
def cCBel : Ctx := ⟨tab, refs, [(10, sTrue), (66, sCfg), (62, sBelC), (57, sLabS), (65, sFails), (21, sSameC), (59, sSameU)], [], keep, mps⟩
def sLawCB : Sum := ⟨[i64, u64, u64], fun _ => none, fun _ => .dat .bool (.B true)⟩
theorem cbelow_fun : FunOK cCBel 400 Try.f12 sLawCB := fun n hn a ha b hb _ => by
  obtain ⟨c, hc⟩ : ∃ c, c = cfgD (cfgK n.int) := ⟨_, rfl⟩
  have hr : chE c = 0 := hc ▸ cfg_right (cfgK_range _).1 (cfgK_range _).2
  have law : ∀ c : D, chE c = 0 → (true && chE c == 0 && chE (belC c a.int) == 0 && chE (belC c a.int) == 0 && chE c == 0 && chE c == 0 && chE (belC c a.int) == 0 && (chE (belC c a.int) == 0 && chA (belC c a.int) == 0)
      && sameC (belC c a.int) (belC (belC c a.int) a.int) && sameC (belC (belC c a.int) b.int) (belC c (bitsOp .and .u64 a.int b.int)) && sameI (labS c a.int) (labS (belC c a.int) 18446744073709551615)
      && eqD (.arr 6 tenS) ((belC c a.int).nth 1) (c.nth 1) && ((belC c a.int).nth 3).int == (c.nth 3).int) = true := by
    intro c hr
    have et : (belC c a.int).nth 1 = c.nth 1 := by rw [belC_f hr]; rfl
    have eh : (belC c a.int).nth 3 = c.nth 3 := by rw [belC_f hr]; rfl
    have hb := belC_right hr a.int
    rw [hr, hb, chA_0 hb, belC_twice hr, belC_bel hr, labS_bel hr, et, eh, sameC_rfl, sameC_rfl, sameI_rfl]
    simp [eqD, eqDs]
  refine Bears.bool ?_
  exact law (cfgD (cfgK n.int)) (hc ▸ hr)
theorem cbelow_ok : SumOK Try.prog 12 sLawCB := sumOK_of_vc (c := cCBel) (ctxOK (.cons knownC_ok (.cons cfg_ok (.cons belowC_ok (.cons labels_ok (.cons fails_ok (.cons same_ok (.cons sameU_ok .nil)))))))) mixed Try.func12 rfl (by decide) @cbelow_fun
end Go.Proofs.Ytjcfnooplhoheaa
