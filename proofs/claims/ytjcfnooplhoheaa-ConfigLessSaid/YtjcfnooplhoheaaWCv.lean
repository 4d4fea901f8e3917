/- Accounts of configurations: labels in their order. Accounts of configurations: the law of what is looked at. -/
import Derived.Test.YtjcfnooplhoheaaWCt
import Derived.Test.YtjcfnooplhoheaaWSb
namespace Go.Proofs.Ytjcfnooplhoheaa
open Go Go.Vm
set_option linter.unusedSimpArgs false
set_option linter.unusedVariables false
set_option maxRecDepth 10000
def labsOf (c : D) (L : Int) : List D := sel (seeB c L) (fun i => .I (labAt c i)) (nC c)
def labS (c : D) (L : Int) : List D := if chE c ≠ 0 then [] else sortD (labsOf c L)
def sLabS : Sum := ⟨[configS, u64], fun _ => none, fun
  | [c, l] => .tup [.dat (.slice u64) (.L (labS c l.int)), .dat i64 (.I (chE c))]
  | _ => .und⟩
def cLab : Ctx := ⟨tab, refs, [(55, sSees), (56, sSees)], [], keep, (87 + 1000000, .msum mSort) :: mps⟩
theorem labelsC_fun : FunOK cLab 60 Try.f57 sLabS := fun c hc l hl _ => by
  refine ⟨fun h1 => ⟨Bears.same (eqSame ?_), Bears.int rfl, trivial⟩, fun h1 => ?_⟩
  all_goals replace h1 : (chE c != 0) = _ := h1
  all_goals simp only [bne_iff_ne, ne_eq, bne_eq_false_iff_eq] at h1
  · show D.L [] = D.L (labS c l.int)
    rw [labS, if_pos h1]
  have h8 := lS_len (c := c) (L := l.int)
  refine ⟨{ i : Nat // i ≤ (lS c l.int).length }, 4, fun i => ([(22, .dat i64 (.I i.1)), (21, .dat i64 (.I (lS c l.int).length)), (20, .dat (.slice i64) (.L (lS c l.int))), (8, .own 3 u64), (2, .ptr 0 configS [] configS)], [(3, .grow u64 (tbl (fun k => .I (labAt c (idx c l.int k))) i.1)), (0, .box configS (.dat configS c))]), fun i => (lS c l.int).length - i.1,
    ⟨0, by omega⟩, ⟨[(3, 2)], rfl, ⟨rfl, rfl, rfl, rfl, rfl, trivial⟩, ⟨rfl, rfl, trivial⟩⟩, ?_⟩
  intro x
  obtain ⟨i, hi⟩ := x
  have hlt : ltB (i : Int) ((lS c l.int).length : Int) = true → i < (lS c l.int).length := ltN
  have hge : ltB (i : Int) ((lS c l.int).length : Int) = false → i = (lS c l.int).length := geN hi
  refine ⟨fun h2 => ⟨ix (hlt h2), ?_, ?_, ⟨i + 1, hlt h2⟩, ⟨[(3, 5)], rfl, ⟨slot (i64_1 (n := i) (by omega)), rfl, rfl, rfl, rfl, trivial⟩, ⟨rfl, rfl, trivial⟩⟩, ?_⟩, fun h2 => ⟨?_, Bears.same (eqSame ?_), Bears.int ?_, trivial⟩⟩
  · obtain ⟨_, h4, _, h3⟩ := lS_get (hlt h2)
    show 0 ≤ ((lS c l.int).getD i .Z).int ∧ ((lS c l.int).getD i .Z).int < (nC c : Int)
    omega
  · show (tbl (fun k => D.I (labAt c (idx c l.int k))) i).length + 1 ≤ 1073741824
    rw [tbl_len]; omega
  · have := hlt h2
    show (lS c l.int).length - (i + 1) < (lS c l.int).length - i
    omega
  · show (tbl (fun k => D.I (labAt c (idx c l.int k))) i).length ≤ 12
    rw [tbl_len]; omega
  · have e := hge h2
    subst e
    show D.L (sortD (tbl (fun k => D.I (labAt c (idx c l.int k))) (lS c l.int).length)) = D.L (labS c l.int)
    rw [labS, if_neg (by simp [h1]), labsOf, lS_cls h1 fun i => .I (labAt c i)]
  · exact h1.symm
theorem getD_ints (l : List D) (k : Nat) : (l.getD k .Z).int = (ints l).getD k 0 := by
  simp only [List.getD_eq_getElem?_getD, ints_get]
  cases l[k]? <;> rfl
/-- Where a number is put into a list. -/
theorem insI_at {x : Int} : ∀ {l : List Int} {a : Nat}, a ≤ l.length → (∀ k, k < a → l.getD k 0 < x) → (a < l.length → x ≤ l.getD a 0) → insI x l = l.take a ++ x :: l.drop a
  | [], a, h, _, _ => by
    have : a = 0 := by simpa using h
    subst this; rfl
  | y :: ys, 0, _, _, h => by
    have := h (by simp)
    simp only [List.getD_cons_zero] at this
    rw [insI, if_pos this]; rfl
  | y :: ys, a + 1, h1, h2, h3 => by
    have := h2 0 (by omega)
    simp only [List.getD_cons_zero] at this
    rw [insI, if_neg (by omega), insI_at (l := ys) (a := a) (by simpa using h1) (fun k hk => by simpa using h2 (k + 1) (by omega)) (fun h => by simpa using h3 (by simpa using h))]
    rfl
/-- The labels, put in one by one. -/
def refI (c : D) (L : Int) : Nat → List Int
  | 0 => []
  | i + 1 => insI (labAt c (idx c L i)) (refI c L i)
theorem refI_len (c : D) (L : Int) : ∀ i, (refI c L i).length = i
  | 0 => rfl
  | i + 1 => by rw [refI, (insI_perm _ _).length_eq, List.length_cons, refI_len c L i]
theorem refI_sorted (c : D) (L : Int) : ∀ i, (refI c L i).Pairwise (· ≤ ·)
  | 0 => List.Pairwise.nil
  | i + 1 => insI_sorted (refI_sorted c L i)
theorem refI_perm (c : D) (L : Int) : ∀ i, (refI c L i).Perm (ints (tbl (fun k => .I (labAt c (idx c L k))) i))
  | 0 => List.Perm.refl _
  | i + 1 => by
    rw [refI, tbl, ints_append]
    exact ((insI_perm _ _).trans ((refI_perm c L i).cons _)).trans (List.perm_append_comm (l₁ := [labAt c (idx c L i)]))
theorem nums_len (l : List Int) : (nums l).length = l.length := by simp [nums]
theorem labelsCR_fun : FunOK cLab 60 Try.f58 sLabS := fun c hc l hl _ => by
  refine ⟨{ i : Nat // i ≤ (lS c l.int).length }, 4, fun i => ([(9, .dat i64 (.I i.1)), (8, .own 3 u64), (7, .dat i64 (.I (chE c))), (6, .dat (.slice i64) (.L (lS c l.int))), (2, .ptr 0 configS [] configS)], [(3, .grow u64 (nums (refI c l.int i.1))), (0, .box configS (.dat configS c))]), fun i => (lS c l.int).length - i.1,
    ⟨0, by omega⟩, ⟨[(3, 2)], rfl, ⟨rfl, rfl, rfl, rfl, rfl, trivial⟩, ⟨rfl, rfl, trivial⟩⟩, ?_⟩
  intro x
  obtain ⟨i, hi⟩ := x
  have h8 := lS_len (c := c) (L := l.int)
  have hlt : ltB (i : Int) ((lS c l.int).length : Int) = true → i < (lS c l.int).length := ltN
  have hge : ltB (i : Int) ((lS c l.int).length : Int) = false → i = (lS c l.int).length := geN hi
  have hR := refI_len c l.int i
  refine ⟨fun h2 => ⟨ix (hlt h2), ?_, by kernel_rfl, ?_⟩, fun h2 => ⟨Bears.same (eqSame ?_), Bears.int rfl, trivial⟩⟩
  · obtain ⟨_, h4, _, h3⟩ := lS_get (hlt h2)
    show 0 ≤ ((lS c l.int).getD i .Z).int ∧ ((lS c l.int).getD i .Z).int < (nC c : Int)
    omega
  · refine ⟨{ a : Nat // a ≤ i ∧ ∀ k, k < a → (refI c l.int i).getD k 0 < labAt c (idx c l.int i) }, 24, fun a => ([(11, .dat i64 (.I a.1)), (10, .dat u64 (.I (labAt c (idx c l.int i)))), (9, .dat i64 (.I i)), (8, .own 3 u64), (7, .dat i64 (.I (chE c))), (6, .dat (.slice i64) (.L (lS c l.int))), (2, .ptr 0 configS [] configS)], [(3, .froz u64 (nums (refI c l.int i))), (0, .box configS (.dat configS c))]), fun a => i - a.1,
      ⟨0, by omega, fun k h => by omega⟩, ⟨[], rfl, ⟨rfl, rfl, rfl, rfl, rfl, rfl, rfl, trivial⟩, ⟨rfl, rfl, trivial⟩⟩, ?_⟩
    intro x
    obtain ⟨a, ha, h0⟩ := x
    obtain ⟨R, hRR⟩ : ∃ R, R = refI c l.int i := ⟨_, rfl⟩
    have hRl : R.length = i := by rw [hRR]; exact hR
    have hNl : (nums (refI c l.int i)).length = i := by rw [nums_len, hR]
    have hget : ∀ k, ((nums (refI c l.int i)).getD k .Z).int = R.getD k 0 := fun k => by rw [getD_ints, ints_nums, hRR]
    rw [← hRR] at h0
    have hnl : (nums R).length = i := by rw [nums_len]; exact hRl
    refine ⟨fun hk => ⟨?_, ?_⟩, fun h1 => ?_, fun h1 => ⟨?_, ?_, ?_, ?_, ?_, by kernel_rfl, ?_⟩⟩
    · show 0 ≤ (a : Int)
      omega
    · have h : ltB (a : Int) ((nums (refI c l.int i)).length : Int) = true := keyOne hk
      have := ltN h
      show (a : Int) < ((nums (refI c l.int i)).length : Int)
      omega
    · replace h1 : (ltB (a : Int) ((nums (refI c l.int i)).length : Int) && ltB ((nums (refI c l.int i)).getD a .Z).int (labAt c (idx c l.int i))) = true := h1
      rw [hNl, hget] at h1
      simp only [Bool.and_eq_true, ltB_true] at h1
      have := hlt h2
      exact ⟨⟨a + 1, by omega, by rw [← hRR]; exact upto h0 h1.2⟩, ⟨[], rfl, ⟨slot (i64_1 (n := a) (by omega)), rfl, rfl, rfl, rfl, rfl, rfl, trivial⟩, ⟨rfl, rfl, trivial⟩⟩, by show i - (a + 1) < i - a; omega⟩
    · show 0 ≤ (0 : Int) ∧ (0 : Int) ≤ (a : Int) ∧ (a : Int) ≤ ((nums (refI c l.int i)).length : Int)
      omega
    · show 0 + (((nums (refI c l.int i)).drop 0).take ((a : Int) - 0).toNat).length ≤ 1073741824
      have := hlt h2
      simp only [List.length_take, List.length_drop]; omega
    · show ([] ++ ((nums (refI c l.int i)).drop 0).take ((a : Int) - 0).toNat).length + 1 ≤ 1073741824
      have := hlt h2
      simp only [List.nil_append, List.length_take, List.length_drop]; omega
    · show 0 ≤ (a : Int) ∧ (a : Int) ≤ ((nums (refI c l.int i)).length : Int) ∧ ((nums (refI c l.int i)).length : Int) ≤ ((nums (refI c l.int i)).length : Int)
      omega
    · show ([] ++ ((nums (refI c l.int i)).drop 0).take ((a : Int) - 0).toNat ++ [D.I (labAt c (idx c l.int i))]).length + (((nums (refI c l.int i)).drop a).take (((nums (refI c l.int i)).length : Int) - (a : Int)).toNat).length ≤ 1073741824
      have := hlt h2
      simp only [List.nil_append, List.length_append, List.length_take, List.length_drop, List.length_singleton]; omega
    · replace h1 : (ltB (a : Int) ((nums (refI c l.int i)).length : Int) && ltB ((nums (refI c l.int i)).getD a .Z).int (labAt c (idx c l.int i))) = false := h1
      rw [hNl, hget] at h1
      simp only [Bool.and_eq_false_iff, ltB_false] at h1
      have := hlt h2
      refine ⟨⟨i + 1, this⟩, ⟨[(3, 46)], rfl, ⟨slot (i64_1 (n := i) (by omega)), rfl, rfl, rfl, rfl, trivial⟩, ⟨gro ?_, rfl, trivial⟩⟩, by show (lS c l.int).length - (i + 1) < (lS c l.int).length - i; omega⟩
      show [] ++ ((nums (refI c l.int i)).drop 0).take ((a : Int) - 0).toNat ++ [D.I (labAt c (idx c l.int i))] ++ ((nums (refI c l.int i)).drop a).take (((nums (refI c l.int i)).length : Int) - (a : Int)).toNat = nums (insI (labAt c (idx c l.int i)) (refI c l.int i))
      rw [insI_at (l := refI c l.int i) (a := a) (by omega) (by rw [← hRR]; exact h0) (fun h => by rw [← hRR]; omega), hNl]
      have e1 : ((a : Int) - 0).toNat = a := by omega
      have e2 : ((i : Int) - (a : Int)).toNat = i - a := by omega
      have e3 : ((nums (refI c l.int i)).drop a).take (i - a) = (nums (refI c l.int i)).drop a := List.take_of_length_le (by rw [List.length_drop, hNl]; omega)
      rw [e1, e2, e3]
      simp [nums, List.map_take, List.map_drop]
  · show D.L (nums (refI c l.int i)) = D.L (labS c l.int)
    have e := hge h2
    rw [labS]
    by_cases h1 : chE c = 0
    · rw [if_neg (by simp [h1]), sorted_eq (refI_sorted c l.int i) (refI_perm c l.int i), e, lS_cls h1 fun i => .I (labAt c i)]
      rfl
    · rw [if_pos h1]
      have : lS c l.int = [] := if_pos h1
      rw [this] at e
      rw [e]; rfl
end Go.Proofs.Ytjcfnooplhoheaa

namespace Go.Proofs.Ytjcfnooplhoheaa
open Go Go.Vm
set_option linter.unusedSimpArgs false
set_option linter.unusedVariables false
set_option maxRecDepth 10000
theorem sameU_ok : SumOK Try.prog 59 sSameU := sumOK_of_vc (c := c0) (ctxOK .nil) mixed Try.func59 rfl (by decide) @sameU_fun
theorem plOK : CtxOK Try.prog cPl := ctxOK (.cons seesP_ok (.cons seesR_ok (.cons below_ok (.cons belowR_ok (.cons okR_ok .nil)))))
theorem places_ok : SumOK Try.prog 60 sPlaces := sumOK_of_vc (c := cPl) plOK mixed Try.func60 rfl (by decide) @places_fun
theorem placesR_ok : SumOK Try.prog 61 sPlaces := sumOK_of_vc (c := cPl) plOK mixed Try.func61 rfl (by decide) @placesR_fun
theorem belowC_ok : SumOK Try.prog 62 sBelC := sumOK_of_vc (c := cPl) plOK mixed Try.func62 rfl (by decide) @belowC_fun
theorem belowCR_ok : SumOK Try.prog 63 sBelC := sumOK_of_vc (c := cPl) plOK mixed Try.func63 rfl (by decide) @belowCR_fun
theorem labOK : CtxOK Try.prog cLab := (ctxOK (.cons seesP_ok (.cons seesR_ok .nil))).withM sort_ok
theorem labels_ok : SumOK Try.prog 57 sLabS := sumOK_of_vc (c := cLab) labOK mixed Try.func57 rfl (by decide) @labelsC_fun
theorem labelsR_ok : SumOK Try.prog 58 sLabS := sumOK_of_vc (c := cLab) labOK mixed Try.func58 rfl (by decide) @labelsCR_fun
def cCLooks : Ctx := ⟨tab, refs, [(14, sLight), (15, sTrue), (25, sOwnC), (51, sCheckC), (52, sCheckC), (53, sClassC), (54, sClassC), (55, sSees), (56, sSees), (20, sSameI), (57, sLabS), (58, sLabS), (59, sSameU), (60, sPlaces), (61, sPlaces), (62, sBelC), (63, sBelC), (36, sSameC)], [], keep, mps⟩
def sLawCL : Sum := ⟨[configS, u64], fun _ => none, fun _ => .dat .bool (.B true)⟩
theorem clooks_fun : FunOK cCLooks 200 Try.f9 sLawCL := fun c hc l hl _ => by
  refine ⟨fun h1 => Bears.bool rfl, fun h1 => ⟨?_, fun h2 => ?_, fun h2 => ⟨fun h3 => ?_, fun h3 => ⟨fun h4 => ?_, fun h4 => ⟨fun h5 => ?_, fun h5 => Bears.bool ?_⟩⟩⟩⟩⟩
  · replace h1 : (!(leB (nC c) 12 && leB (nR c) 12)) = false := h1
    simp only [Bool.not_eq_false', Bool.and_eq_true, leB_true] at h1
    show nC c ≤ 1000 ∧ nR c ≤ 1000
    omega
  · replace h2 : (chE c != chE c || chA c != chA c) = true := h2
    simp at h2
  · replace h3 : (clN c l.int != clN c l.int || clX c l.int != clX c l.int) = true := h3
    simp at h3
  · replace h4 : (!sameI (if chE c ≠ 0 then [] else pick (seeB c l.int) (nC c)) (if chE c ≠ 0 then [] else pick (seeB c l.int) (nC c)) || chE c != chE c) = true := h4
    rw [sameI_rfl] at h4
    simp at h4
  · replace h5 : (!sameI (labS c l.int) (labS c l.int) || chE c != chE c) = true := h5
    rw [sameI_rfl] at h5
    simp at h5
  · show (plS c l.int == plS c l.int && chE c == chE c && sameC (belC c l.int) (belC c l.int) && chE c == chE c && sameC c c && true) = true
    simp only [beq_self_eq_true, sameC_rfl, Bool.and_self]
theorem clooks_ok : SumOK Try.prog 9 sLawCL := sumOK_of_vc (c := cCLooks) (ctxOK (.cons light_ok (.cons awake_ok (.cons ownC_ok (.cons check_ok (.cons checkR_ok (.cons classP_ok (.cons classR_ok (.cons seesP_ok (.cons seesR_ok (.cons sameInts_ok (.cons labels_ok (.cons labelsR_ok (.cons sameU_ok (.cons places_ok (.cons placesR_ok (.cons belowC_ok (.cons belowCR_ok (.cons sameK_ok .nil))))))))))))))))))) mixed Try.func9 rfl (by decide) @clooks_fun
end Go.Proofs.Ytjcfnooplhoheaa
