/- RuleReleases of rules that are made of a number. -/
import Derived.Test.YtjjpeeppfnhiiaaWRc
import Derived.Test.YtjjpeeppfnhiiaaWPb
namespace Go.Proofs.Ytjjpeeppfnhiiaa
open Go Go.Vm
set_option linter.unusedSimpArgs false
set_option linter.unusedVariables false
set_option maxRecDepth 10000
theorem rls_ok : SumOK Try.prog 17 sRls := sumOK_of_vc (c := cRls) (ctxK (.cons cfg_ok .nil)) mixed Try.func17 rfl (by decide) @rls_fun
theorem lbl_ok : SumOK Try.prog 44 sLbl := sumOK_of_vc (c := cLbl0) (ctxK (.cons mod_ok .nil)) mixed Try.func44 rfl (by decide) @lbl_fun
theorem evt_ok : SumOK Try.prog 18 sEvK := sumOK_of_vc (c := cLbl) (ctxK (.cons mod_ok (.cons lbl_ok .nil))) mixed Try.func18 rfl (by decide) @evt_fun
theorem has_ok : SumOK Try.prog 22 sHas := sumOK_of_vc (c := c0K) (ctxK .nil) mixed Try.func22 rfl (by decide) @has_fun
theorem which_ok : SumOK Try.prog 20 sWhich := sumOK_of_vc (c := cWhich) (CtxOK.of tabKOK rfl (.cons List_ok (.cons event_ok (.cons may_ok (.cons below_ok (.cons fits_ok .nil))))) (FunsOK.cons rfl rfl (by decide) (FunsOK.cons rfl rfl (by decide) FunsOK.nil))) mixed Try.func20 rfl (by decide) @which_fun
section
variable {J : Int} (j0 : 0 ≤ J) (j1 : J < 1099511627776) {i : Nat} (hi : i < 5)
include j0 j1 hi
theorem ruR_right {N : Nat} (n1 : 1 ≤ N) (n5 : N ≤ 5) : checkF (ruR J N i) = 0 := by
  have a1 := ruR_owner j0 j1 hi N
  obtain ⟨a, x, y, ha, _, hx, hy, e1, e2⟩ := ruR_labels j0 j1 hi n1 n5
  have a2 := ruR_kinds j0 j1 hi N
  have a3 := ruR_bounds j0 j1 hi N
  have hb : badOwner (ruR J N i) = false := by
    have h3 : (((ruR J N i).nth 3).bool && ((ruR J N i).nth 4).int != 0) = false := by
      cases h : ((ruR J N i).nth 3).bool
      · rfl
      · rw [a2.2.2 h]; rfl
    rw [badOwner, h3]
    simp only [Bool.or_false, Bool.or_eq_false_iff, ltB_false]
    omega
  have hl : belowB ((ruR J N i).nth 2).int ((ruR J N i).nth 1).int = true := by
    have : ∀ a, a < 5 → ∀ x, x < 4 → ∀ y, y < 2 → belowB (bitsOp .and .u64 (labI a) (x : Nat)) (bitsOp .or .u64 (labI a) (y : Nat)) = true := by decide
    rw [e1, e2]; exact this a ha x hx y hy
  have p0 : partF (ruR J N i) 0 = 0 := by rw [partF, if_pos rfl, hb]; rfl
  have p1 : partF (ruR J N i) 1 = 0 := by rw [partF, if_neg (by decide), if_pos rfl, hl]; rfl
  have p2 : partF (ruR J N i) 2 = 0 := by rw [partF, if_neg (by decide), if_neg (by decide), if_pos rfl, if_neg (by omega)]
  rw [checkF, p0, p1, p2]; rfl
end
theorem cfgL_eq (K : Int) : cfgL K = cfgN K := clsR_len _ _
theorem rlsK_len (n : Int) : (rlsK n).length = cfgM (cfgJ (cfgK n)) := rlsR_len _ _ _
theorem cfgM_le (J : Int) (j0 : 0 ≤ J) : cfgM J ≤ 4 := by
  rw [cfgM, Int.tmod_eq_emod_of_nonneg j0]; omega
theorem rlsK_le (n : Int) : (rlsK n).length ≤ 4 := by
  have hk := cfgK_range n
  rw [rlsK_len]; exact cfgM_le _ (cfgJ_range hk.1 hk.2).1
theorem rlsK_get (n : Int) {i : Nat} (h : i < (rlsK n).length) : (rlsK n).getD i .Z = ruR (cfgJ (cfgK n)) (cfgN (cfgK n)) i := by
  rw [rlsK_len] at h
  rw [← cfgL_eq]
  exact tbl_get _ h
theorem rlsK_check (n : Int) {i : Nat} (h : i < (rlsK n).length) : checkF ((rlsK n).getD i .Z) = 0 := by
  have hk := cfgK_range n
  have hj := cfgJ_range hk.1 hk.2
  have h4 := rlsK_le n
  have hN := cfgN_range hk.1
  rw [rlsK_get n h]
  exact ruR_right hj.1 hj.2 (by omega) (by omega) hN.2
theorem rlsK_right (n : Int) : listF (.L (rlsK n)) = 0 := by
  have h4 := rlsK_le n
  rw [listF, if_neg (by show ¬ 8 < (rlsK n).length; omega)]
  exact firstErr_none fun m hm => rlsK_check n hm
theorem evK_right (k : Int) : eventF (evK k) = 0 := by
  have hk := cfgK_range k
  have h1 : 0 ≤ (cfgK k).tdiv 256 := Int.tdiv_nonneg hk.1 (by omega)
  have h2 : (cfgK k).tdiv 256 ≤ cfgK k := Int.tdiv_le_self _ hk.1
  have h3 : 0 ≤ kndI k ∧ kndI k < 4 := by
    rw [kndI, w_ok (by omega) (by omega), Int.tmod_eq_emod_of_nonneg h1]
    omega
  have e1 : ((evK k).nth 1).int = kndI k := rfl
  rw [eventF, e1, if_neg]
  simp only [Bool.or_eq_true, ltB_true]
  omega
theorem pick_mono {p q : Nat → Bool} : ∀ {n : Nat}, (∀ i, i < n → p i = true → q i = true) → (pick p n).length ≤ (pick q n).length
  | 0, _ => by simp [pick]
  | n + 1, h => by
    have ih := pick_mono (n := n) fun i hi => h i (by omega)
    rw [pick_succ, pick_succ, List.length_append, List.length_append]
    by_cases hp : p n = true
    · rw [if_pos hp, if_pos (h n (by omega) hp)]; simp only [List.length_cons, List.length_nil]; omega
    · rw [if_neg hp]; simp only [List.length_nil]; omega
theorem mayF_0 {l : D} {i : Nat} {t c : Int} : mayF l i t c = 0 ↔ i < l.list.length ∧ ((l.list.getD i .Z).nth 0).int = t ∧ belowB ((l.list.getD i .Z).nth 1).int c = true := by
  rw [mayF]
  simp only [Int.toNat_natCast, ← List.getD_eq_getElem?_getD]
  by_cases h : (i : Int) < 0 ∨ (l.list.length : Int) ≤ i ∨ ((l.list.getD i .Z).nth 0).int ≠ t
  · rw [if_pos h]
    constructor
    · intro h; cases h
    · rintro ⟨h1, h2, _⟩
      rcases h with h | h | h
      · omega
      · omega
      · exact absurd h2 h
  · rw [if_neg h]
    simp only [not_or, ne_eq, Decidable.not_not] at h
    by_cases h3 : belowB ((l.list.getD i .Z).nth 1).int c = true
    · rw [if_neg (by rw [h3]; decide)]
      exact ⟨fun _ => ⟨by omega, h.2.2, h3⟩, fun _ => rfl⟩
    · rw [if_pos (Bool.eq_false_iff.2 h3)]
      exact ⟨fun h => absurd h (by decide), fun h => absurd h.2.2 h3⟩
theorem mayF_other {l : D} {i : Nat} {t u c : Int} (h : mayF l i t c = 0) (hu : u ≠ t) : mayF l i u c = 20 := by
  have h1 := mayF_0.1 h
  rw [mayF]
  simp only [Int.toNat_natCast, ← List.getD_eq_getElem?_getD]
  rw [if_pos (Or.inr (Or.inr fun h2 => hu (h2.symm.trans h1.2.1)))]
theorem whP_or {l e : D} {t a b : Int} {i : Nat} (h : whP l t a e i = true) : whP l t (bitsOp .or .u64 a b) e i = true := by
  simp only [whP, Bool.and_eq_true, beq_iff_eq] at h ⊢
  refine ⟨⟨?_, h.1.2⟩, h.2⟩
  have h1 := mayF_0.1 h.1.1
  exact mayF_0.2 ⟨h1.1, h1.2.1, belowB_or (by rw [h1.2.2]; rfl)⟩
theorem checkF_below {r : D} (h : checkF r = 0) : belowB (r.nth 2).int (r.nth 1).int = true := by
  by_cases h1 : belowB (r.nth 2).int (r.nth 1).int = true
  · exact h1
  · have p1 : partF r 1 = 13 := by rw [partF, if_neg (by decide), if_pos rfl, if_neg h1]
    exfalso
    rw [checkF] at h
    split at h
    · contradiction
    · rw [p1] at h; cases h
theorem relErr_0 {r e : D} (hc : checkF r = 0) (he : eventF e = 0) : relErr r e = 0 ↔ belowB (e.nth 0).int (r.nth 1).int = true ∧ fitsB r e = true := by
  have hb : bothF r e = 0 := by rw [bothF, if_neg (by simp [hc])]; exact he
  rw [relErr, if_neg (by simp [hb])]
  by_cases h1 : belowB (e.nth 0).int (r.nth 1).int = true
  · rw [if_neg (by simp [h1])]
    by_cases h2 : fitsB r e = true
    · rw [if_neg (by simp [h2])]; simp [h1, h2]
    · rw [if_pos (by simpa using h2)]; simp [h2]
  · rw [if_pos (by simpa using h1)]; simp [h1]
def cRel : Ctx := ⟨tabK, [], [(17, sRls), (18, sEvK), (19, sMod), (20, sWhich), (12, sRelease), (21, sMay), (22, sHas), (16, sTrue)], [], keep, []⟩
def sRel : Sum := ⟨[i64, i64, u64, u64, i64], fun _ => none, fun _ => .dat .bool (.B true)⟩
theorem rel_fun : FunOK cRel 100 Try.f4 sRel := fun n hn tn htn a ha b hb k hk _ => by
  obtain ⟨L, hL⟩ : ∃ L, L = rlsK n.int := ⟨_, rfl⟩
  obtain ⟨E, hE⟩ : ∃ E, E = evK k.int := ⟨_, rfl⟩
  obtain ⟨T, hT⟩ : ∃ T, T = IntKind.i64.wrap (1 + modI tn.int 6) := ⟨_, rfl⟩
  have h4 : L.length ≤ 4 := hL ▸ rlsK_le _
  have hck : ∀ i, i < L.length → checkF (L.getD i .Z) = 0 := hL ▸ fun i => rlsK_check _
  have hr : listF (.L L) = 0 := hL ▸ rlsK_right _
  have hev : eventF E = 0 := hE ▸ evK_right _
  have hwe : whE (.L L) E = 0 := by rw [whE, if_neg (by simp [hr])]; exact hev
  have hW : ∀ c, whL (.L L) T c E = pick (whP (.L L) T c E) L.length := fun c => by rw [whL, if_neg (by simp [hwe])]; rfl
  refine ⟨fun h1 => Bears.bool ?_, fun h1 => ?_⟩
  · have hm := pick_mono (p := whP (.L L) T a.int E) (q := whP (.L L) T (bitsOp .or .u64 a.int b.int) E) (n := L.length) fun i _ h => whP_or h
    replace h1 : (whE (D.L (rlsK n.int)) (evK k.int) != 0 || whE (D.L (rlsK n.int)) (evK k.int) != 0 || ltB ((whL (D.L (rlsK n.int)) (IntKind.i64.wrap (1 + modI tn.int 6)) (bitsOp .or .u64 a.int b.int) (evK k.int)).length : Int) ((whL (D.L (rlsK n.int)) (IntKind.i64.wrap (1 + modI tn.int 6)) a.int (evK k.int)).length : Int)) = true := h1
    rw [← hL, ← hE, ← hT, hwe, hW, hW] at h1
    simp only [bne_self_eq_false, Bool.false_or, ltB_true] at h1
    omega
  refine ⟨{ i : Nat // i ≤ L.length }, 1, fun i => ([(18, .dat i64 (.I i.1)), (16, .dat (.slice i64) (.L (whL (.L L) T (bitsOp .or .u64 a.int b.int) E))), (14, .dat (.slice i64) (.L (whL (.L L) T a.int E))), (13, .dat i64 (.I T)), (11, .dat (.slice ruleS) (.L L)), (12, .ptr 0 eventS [] eventS), (2, .dat u64 (.I a.int))],
    [(0, .box eventS (.dat eventS E))]), fun i => L.length - i.1,
    ⟨0, by omega⟩, ⟨[], rfl, ⟨rfl, slotD (by rw [hL, hE, hT] <;> rfl), slotD (by rw [hL, hE, hT] <;> rfl), slotD (by rw [hT] <;> rfl), slotD (by rw [hL] <;> rfl), rfl, rfl, trivial⟩, ⟨bx (by rw [hE] <;> rfl), trivial⟩⟩, ?_⟩
  clear h1
  intro x
  obtain ⟨i, hi⟩ := x
  have hlt : ltB (i : Int) (L.length : Int) = true → i < L.length := ltN
  have hMay : ∀ u c, MayF (.L L) i u c = mayF (.L L) i u c := fun u c => by rw [MayF, if_neg (by simp [hr])]
  have hit : (((i : Int)).toNat) = i := rfl
  refine ⟨fun h1 => ⟨ix (hlt h1), by kernel_rfl, fun h2 => Bears.bool ?_, fun h2 => ⟨fun h3 => ix (hlt h1), fun h3 => ix (hlt h1), by kernel_rfl, fun h3 => Bears.bool ?_, fun h3 => ?_⟩⟩, fun h1 => Bears.bool rfl⟩
  · have hk1 := hlt h1
    have e0 := relErr_0 (hck i hk1) hev
    have e1 := mayF_0 (l := .L L) (i := i) (t := T) (c := a.int)
    replace h2 : (!(hasI (whL (.L L) T a.int E) i == (relErr (L.getD i .Z) E == 0 && MayF (.L L) i T a.int == 0)) || hasI (whL (.L L) T a.int E) i && !hasI (whL (.L L) T (bitsOp .or .u64 a.int b.int) E) i) = true := h2
    exfalso
    rw [hMay, hW, hW, has_pick, has_pick] at h2
    have hor := whP_or (l := .L L) (e := E) (t := T) (a := a.int) (b := b.int) (i := i)
    have hd : decide (i < L.length) = true := by simpa using hk1
    have heq : whP (.L L) T a.int E i = (relErr (L.getD i .Z) E == 0 && mayF (.L L) i T a.int == 0) := by
      rw [Bool.eq_iff_iff]
      simp only [whP, Bool.and_eq_true, beq_iff_eq, e0]
      constructor
      · rintro ⟨⟨x1, x2⟩, x3⟩; exact ⟨⟨x2, x3⟩, x1⟩
      · rintro ⟨⟨x2, x3⟩, x1⟩; exact ⟨⟨x1, x2⟩, x3⟩
    rw [hd, Bool.true_and, Bool.true_and, ← heq] at h2
    cases hp : whP (.L L) T a.int E i
    · rw [hp] at h2; simp at h2
    · rw [hp, hor hp] at h2; simp at h2
  · exfalso
    have hk1 := hlt h1
    replace h3 : (relErr (L.getD i .Z) E == 0 && (((relF (L.getD i .Z) E).nth 1).int != (E.nth 1).int || ((relF (L.getD i .Z) E).nth 2).int != (E.nth 2).int || ((relF (L.getD i .Z) E).nth 0).int != ((L.getD i .Z).nth 2).int || bitsOp .andNot .u64 ((relF (L.getD i .Z) E).nth 0).int ((L.getD i .Z).nth 1).int != 0)) = true := h3
    simp only [Bool.and_eq_true, beq_iff_eq] at h3
    obtain ⟨h4, h5⟩ := h3
    have hc := hck i hk1
    have hbl : belowB ((L.getD i .Z).nth 2).int ((L.getD i .Z).nth 1).int = true := checkF_below hc
    rw [relF, if_pos h4] at h5
    have q0 : ((evD ((L.getD i .Z).nth 2).int (E.nth 1).int (E.nth 2).int).nth 0).int = ((L.getD i .Z).nth 2).int := rfl
    have q1 : ((evD ((L.getD i .Z).nth 2).int (E.nth 1).int (E.nth 2).int).nth 1).int = (E.nth 1).int := rfl
    have q2 : ((evD ((L.getD i .Z).nth 2).int (E.nth 1).int (E.nth 2).int).nth 2).int = (E.nth 2).int := rfl
    have q3 : bitsOp .andNot .u64 ((L.getD i .Z).nth 2).int ((L.getD i .Z).nth 1).int = 0 := by simpa [belowB] using hbl
    rw [q0, q1, q2, q3] at h5
    simp at h5
  · clear h2 h3
    refine ⟨{ u : Nat // 1 ≤ u ∧ u ≤ 7 }, 99, fun u => ([(22, .dat i64 (.I u.1)), (21, .dat i64 (.I (MayF (.L L) i T a.int))), (18, .dat i64 (.I i)), (16, .dat (.slice i64) (.L (whL (.L L) T (bitsOp .or .u64 a.int b.int) E))), (14, .dat (.slice i64) (.L (whL (.L L) T a.int E))), (13, .dat i64 (.I T)), (11, .dat (.slice ruleS) (.L L)), (12, .ptr 0 eventS [] eventS), (2, .dat u64 (.I a.int))],
      [(0, .box eventS (.dat eventS E))]), fun u => 7 - u.1,
      ⟨1, by omega⟩, ⟨[], rfl, ⟨rfl, rfl, rfl, rfl, rfl, rfl, rfl, rfl, rfl, trivial⟩, ⟨rfl, trivial⟩⟩, ?_⟩
    intro y
    obtain ⟨u, hu⟩ := y
    refine ⟨fun h2 => ⟨fun h3 => Bears.bool ?_, fun h3 => ?_⟩, fun h2 => ?_⟩
    · exfalso
      replace h3 : ((u : Int) != T && MayF (.L L) i T a.int == 0 && MayF (.L L) i u a.int != 20) = true := h3
      rw [hMay, hMay] at h3
      simp only [Bool.and_eq_true, beq_iff_eq, bne_iff_ne] at h3
      exact h3.2 (mayF_other h3.1.2 h3.1.1)
    · replace h2 : leB (u : Int) 6 = true := h2
      simp only [leB_true] at h2
      exact ⟨⟨u + 1, by omega⟩, ⟨[], rfl, ⟨slot (i64_1 (n := u) (by omega)), rfl, rfl, rfl, rfl, rfl, rfl, rfl, rfl, trivial⟩, ⟨rfl, trivial⟩⟩, by show 7 - (u + 1) < 7 - u; omega⟩
    · have := hlt h1
      exact ⟨⟨i + 1, by omega⟩, ⟨[], rfl, ⟨slot (i64_1 (n := i) (by omega)), rfl, rfl, rfl, rfl, rfl, rfl, trivial⟩, ⟨rfl, trivial⟩⟩, by show _ - (i + 1) < _ - i; omega⟩
theorem rel_ok : SumOK Try.prog 4 sRel := sumOK_of_vc (c := cRel) (ctxK (.cons rls_ok (.cons evt_ok (.cons mod_ok (.cons which_ok (.cons Release_ok (.cons May_ok (.cons has_ok (.cons awake_ok .nil))))))))) mixed Try.func4 rfl (by decide) @rel_fun
end Go.Proofs.Ytjjpeeppfnhiiaa
