/- Accounts of configurations: the examples. -/
import Derived.Test.YtjcfnooplhoheaaWCv
namespace Go.Proofs.Ytjcfnooplhoheaa
open Go Go.Vm
set_option linter.unusedSimpArgs false
set_option linter.unusedVariables false
set_option maxRecDepth 10000
def sFails : Sum := ⟨[configS, i64, i64], fun _ => none, fun
  | [c, e, n] => .dat .bool (.B (chE c == e.int && chA c == n.int))
  | _ => .und⟩
def cFails : Ctx := ⟨tab, refs, [(51, sCheckC)], [], keep, mps⟩
theorem fails_fun : FunOK cFails 40 Try.f65 sFails := fun c hc e he n hn _ => by
  exact Bears.bool rfl
theorem fails_ok : SumOK Try.prog 65 sFails := sumOK_of_vc (c := cFails) (ctxOK (.cons check_ok .nil)) mixed Try.func65 rfl (by decide) @fails_fun
noncomputable def cKnownC : Ctx := ⟨tab, refs, [(15, sTrue), (65, sFails), (55, sSees), (57, sLabS), (60, sPlaces), (18, sRules), (16, sTenant), (62, sBelC), (20, sSameI), (59, sSameU), (36, sSameC)], [(64, Try.f64)], keep, mps⟩
theorem lt6 {i : Nat} (h : ltB (i : Int) 6 = true) : i < 6 := by simp only [ltB_true] at h; omega
theorem ge6 {i : Nat} (hi : i ≤ 6) (h : ltB (i : Int) 6 = false) : i = 6 := by simp only [ltB_false] at h; omega
theorem knownC_fun : FunOK cKnownC 400 Try.f10 sTrue := fun _ => by
  refine ⟨{ i : Nat // i ≤ 6 }, 4, fun i => ([(2, .dat i64 (.I i.1)), (1, .ptr 3 configS [] configS), (0, .ptr 0 configS [] configS)], [(3, .box configS (.st fS [.own 1 classS, .dat (.arr 6 tenS) (tens i.1), .own 2 ruleS, .dat u64 (.I 10)])), (2, .grow ruleS (rls shownC)), (1, .grow classS (cls shownC)), (0, cfgO)]), fun i => 6 - i.1, ⟨0, by omega⟩, ⟨[], rfl, ⟨rfl, rfl, rfl, trivial⟩, ⟨rfl, rfl, rfl, rfl, trivial⟩⟩, ?_⟩
  intro x
  obtain ⟨i, hi⟩ := x
  refine ⟨fun h1 => ⟨ix (lt6 (i := i) h1), ⟨i + 1, lt6 (i := i) h1⟩, ⟨[], rfl, ⟨slot (i64_1 (n := i) (by omega)), rfl, rfl, trivial⟩, ⟨rfl, rfl, rfl, rfl, trivial⟩⟩, by have := lt6 (i := i) h1; show 6 - (i + 1) < 6 - i; omega⟩, fun h1 => ?_⟩
  have e := ge6 (i := i) hi h1
  subst e
  clear h1
  refine ⟨?_, trivial, ?_, trivial, ?_, trivial, ?_⟩
  iterate 3
    · show _ = true
      kernel_rfl
  refine ⟨{ i : Nat // i ≤ 6 }, 15, fun i => ([(2, .dat i64 (.I i.1)), (1, .ptr 14 configS [] configS), (0, .ptr 11 configS [] configS)], [(14, .box configS (.st fS [.own 12 classS, .dat (.arr 6 tenS) (tens i.1), .own 13 ruleS, .dat u64 (.I 10)])), (13, .grow ruleS (rls shownC)), (12, .grow classS (cls shownC)), (11, cfgO)]), fun i => 6 - i.1, ⟨0, by omega⟩, ⟨[], rfl, ⟨rfl, rfl, rfl, trivial⟩, ⟨rfl, rfl, rfl, rfl, trivial⟩⟩, ?_⟩
  intro x
  obtain ⟨i, hi⟩ := x
  refine ⟨fun h1 => ⟨ix (lt6 (i := i) h1), ⟨i + 1, lt6 (i := i) h1⟩, ⟨[], rfl, ⟨slot (i64_1 (n := i) (by omega)), rfl, rfl, trivial⟩, ⟨rfl, rfl, rfl, rfl, trivial⟩⟩, by have := lt6 (i := i) h1; show 6 - (i + 1) < 6 - i; omega⟩, fun h1 => ?_⟩
  have e := ge6 (i := i) hi h1
  subst e
  clear h1
  refine ⟨{ i : Nat // i ≤ 6 }, 19, fun i => ([(2, .dat i64 (.I i.1)), (1, .ptr 18 configS [] configS), (0, .ptr 15 configS [] configS)], [(18, .box configS (.st fS [.own 16 classS, .dat (.arr 6 tenS) (tens i.1), .own 17 ruleS, .dat u64 (.I 10)])), (17, .grow ruleS (rls shownC)), (16, .grow classS (cls shownC)), (15, cfgO), (13, .grow ruleS (rls shownC)), (12, .grow classS (cls shownC))]), fun i => 6 - i.1, ⟨0, by omega⟩, ⟨[], rfl, ⟨rfl, rfl, rfl, trivial⟩, ⟨rfl, rfl, rfl, rfl, rfl, rfl, trivial⟩⟩, ?_⟩
  intro x
  obtain ⟨i, hi⟩ := x
  refine ⟨fun h1 => ⟨ix (lt6 (i := i) h1), ⟨i + 1, lt6 (i := i) h1⟩, ⟨[], rfl, ⟨slot (i64_1 (n := i) (by omega)), rfl, rfl, trivial⟩, ⟨rfl, rfl, rfl, rfl, rfl, rfl, trivial⟩⟩, by have := lt6 (i := i) h1; show 6 - (i + 1) < 6 - i; omega⟩, fun h1 => ?_⟩
  have e := ge6 (i := i) hi h1
  subst e
  clear h1
  refine ⟨{ i : Nat // i ≤ 6 }, 23, fun i => ([(2, .dat i64 (.I i.1)), (1, .ptr 22 configS [] configS), (0, .ptr 19 configS [] configS)], [(22, .box configS (.st fS [.own 20 classS, .dat (.arr 6 tenS) (tens i.1), .own 21 ruleS, .dat u64 (.I 10)])), (21, .grow ruleS (rls shownC)), (20, .grow classS (cls shownC)), (19, cfgO), (17, .grow ruleS (rls shownC)), (16, .grow classS (cls shownC)), (13, .grow ruleS (rls shownC)), (12, .grow classS (cls shownC))]), fun i => 6 - i.1, ⟨0, by omega⟩, ⟨[], rfl, ⟨rfl, rfl, rfl, trivial⟩, ⟨rfl, rfl, rfl, rfl, rfl, rfl, rfl, rfl, trivial⟩⟩, ?_⟩
  intro x
  obtain ⟨i, hi⟩ := x
  refine ⟨fun h1 => ⟨ix (lt6 (i := i) h1), ⟨i + 1, lt6 (i := i) h1⟩, ⟨[], rfl, ⟨slot (i64_1 (n := i) (by omega)), rfl, rfl, trivial⟩, ⟨rfl, rfl, rfl, rfl, rfl, rfl, rfl, rfl, trivial⟩⟩, by have := lt6 (i := i) h1; show 6 - (i + 1) < 6 - i; omega⟩, fun h1 => ?_⟩
  have e := ge6 (i := i) hi h1
  subst e
  clear h1
  refine ⟨{ i : Nat // i ≤ 6 }, 27, fun i => ([(2, .dat i64 (.I i.1)), (1, .ptr 26 configS [] configS), (0, .ptr 23 configS [] configS)], [(26, .box configS (.st fS [.own 24 classS, .dat (.arr 6 tenS) (tens i.1), .own 25 ruleS, .dat u64 (.I 10)])), (25, .grow ruleS (rls shownC)), (24, .grow classS (cls shownC)), (23, cfgO), (21, .grow ruleS (rls shownC)), (20, .grow classS (cls shownC)), (17, .grow ruleS (rls shownC)), (16, .grow classS (cls shownC)), (13, .grow ruleS (rls shownC)), (12, .grow classS (cls shownC))]), fun i => 6 - i.1, ⟨0, by omega⟩, ⟨[], rfl, ⟨rfl, rfl, rfl, trivial⟩, ⟨rfl, rfl, rfl, rfl, rfl, rfl, rfl, rfl, rfl, rfl, trivial⟩⟩, ?_⟩
  intro x
  obtain ⟨i, hi⟩ := x
  refine ⟨fun h1 => ⟨ix (lt6 (i := i) h1), ⟨i + 1, lt6 (i := i) h1⟩, ⟨[], rfl, ⟨slot (i64_1 (n := i) (by omega)), rfl, rfl, trivial⟩, ⟨rfl, rfl, rfl, rfl, rfl, rfl, rfl, rfl, rfl, rfl, trivial⟩⟩, by have := lt6 (i := i) h1; show 6 - (i + 1) < 6 - i; omega⟩, fun h1 => ?_⟩
  have e := ge6 (i := i) hi h1
  subst e
  clear h1
  refine ⟨{ i : Nat // i ≤ 6 }, 31, fun i => ([(2, .dat i64 (.I i.1)), (1, .ptr 30 configS [] configS), (0, .ptr 27 configS [] configS)], [(30, .box configS (.st fS [.own 28 classS, .dat (.arr 6 tenS) (tens i.1), .own 29 ruleS, .dat u64 (.I 10)])), (29, .grow ruleS (rls shownC)), (28, .grow classS (cls shownC)), (27, cfgO), (25, .grow ruleS (rls shownC)), (24, .grow classS (cls shownC)), (21, .grow ruleS (rls shownC)), (20, .grow classS (cls shownC)), (17, .grow ruleS (rls shownC)), (16, .grow classS (cls shownC)), (13, .grow ruleS (rls shownC)), (12, .grow classS (cls shownC))]), fun i => 6 - i.1, ⟨0, by omega⟩, ⟨[], rfl, ⟨rfl, rfl, rfl, trivial⟩, ⟨rfl, rfl, rfl, rfl, rfl, rfl, rfl, rfl, rfl, rfl, rfl, rfl, trivial⟩⟩, ?_⟩
  intro x
  obtain ⟨i, hi⟩ := x
  refine ⟨fun h1 => ⟨ix (lt6 (i := i) h1), ⟨i + 1, lt6 (i := i) h1⟩, ⟨[], rfl, ⟨slot (i64_1 (n := i) (by omega)), rfl, rfl, trivial⟩, ⟨rfl, rfl, rfl, rfl, rfl, rfl, rfl, rfl, rfl, rfl, rfl, rfl, trivial⟩⟩, by have := lt6 (i := i) h1; show 6 - (i + 1) < 6 - i; omega⟩, fun h1 => ?_⟩
  have e := ge6 (i := i) hi h1
  subst e
  clear h1
  refine ⟨{ i : Nat // i ≤ 6 }, 35, fun i => ([(2, .dat i64 (.I i.1)), (1, .ptr 34 configS [] configS), (0, .ptr 31 configS [] configS)], [(34, .box configS (.st fS [.own 32 classS, .dat (.arr 6 tenS) (tens i.1), .own 33 ruleS, .dat u64 (.I 10)])), (33, .grow ruleS (rls shownC)), (32, .grow classS (cls shownC)), (31, cfgO), (29, .grow ruleS (rls shownC)), (28, .grow classS (cls shownC)), (25, .grow ruleS (rls shownC)), (24, .grow classS (cls shownC)), (21, .grow ruleS (rls shownC)), (20, .grow classS (cls shownC)), (17, .grow ruleS (rls shownC)), (16, .grow classS (cls shownC)), (13, .grow ruleS (rls shownC)), (12, .grow classS (cls shownC))]), fun i => 6 - i.1, ⟨0, by omega⟩, ⟨[], rfl, ⟨rfl, rfl, rfl, trivial⟩, ⟨rfl, rfl, rfl, rfl, rfl, rfl, rfl, rfl, rfl, rfl, rfl, rfl, rfl, rfl, trivial⟩⟩, ?_⟩
  intro x
  obtain ⟨i, hi⟩ := x
  refine ⟨fun h1 => ⟨ix (lt6 (i := i) h1), ⟨i + 1, lt6 (i := i) h1⟩, ⟨[], rfl, ⟨slot (i64_1 (n := i) (by omega)), rfl, rfl, trivial⟩, ⟨rfl, rfl, rfl, rfl, rfl, rfl, rfl, rfl, rfl, rfl, rfl, rfl, rfl, rfl, trivial⟩⟩, by have := lt6 (i := i) h1; show 6 - (i + 1) < 6 - i; omega⟩, fun h1 => ?_⟩
  have e := ge6 (i := i) hi h1
  subst e
  clear h1
  refine ⟨{ i : Nat // i ≤ 6 }, 39, fun i => ([(2, .dat i64 (.I i.1)), (1, .ptr 38 configS [] configS), (0, .ptr 35 configS [] configS)], [(38, .box configS (.st fS [.own 36 classS, .dat (.arr 6 tenS) (tens i.1), .own 37 ruleS, .dat u64 (.I 10)])), (37, .grow ruleS (rls shownC)), (36, .grow classS (cls shownC)), (35, cfgO), (33, .grow ruleS (rls shownC)), (32, .grow classS (cls shownC)), (29, .grow ruleS (rls shownC)), (28, .grow classS (cls shownC)), (25, .grow ruleS (rls shownC)), (24, .grow classS (cls shownC)), (21, .grow ruleS (rls shownC)), (20, .grow classS (cls shownC)), (17, .grow ruleS (rls shownC)), (16, .grow classS (cls shownC)), (13, .grow ruleS (rls shownC)), (12, .grow classS (cls shownC))]), fun i => 6 - i.1, ⟨0, by omega⟩, ⟨[], rfl, ⟨rfl, rfl, rfl, trivial⟩, ⟨rfl, rfl, rfl, rfl, rfl, rfl, rfl, rfl, rfl, rfl, rfl, rfl, rfl, rfl, rfl, rfl, trivial⟩⟩, ?_⟩
  intro x
  obtain ⟨i, hi⟩ := x
  refine ⟨fun h1 => ⟨ix (lt6 (i := i) h1), ⟨i + 1, lt6 (i := i) h1⟩, ⟨[], rfl, ⟨slot (i64_1 (n := i) (by omega)), rfl, rfl, trivial⟩, ⟨rfl, rfl, rfl, rfl, rfl, rfl, rfl, rfl, rfl, rfl, rfl, rfl, rfl, rfl, rfl, rfl, trivial⟩⟩, by have := lt6 (i := i) h1; show 6 - (i + 1) < 6 - i; omega⟩, fun h1 => ?_⟩
  have e := ge6 (i := i) hi h1
  subst e
  clear h1
  refine ⟨?_, ?_, ?_, ?_, ?_, ?_, Bears.bool ?_⟩
  · show 0 ≤ (1 : Int) ∧ (1 : Int) < ((3 : Nat) : Int)
    decide
  · show 0 ≤ (2 : Int) ∧ (2 : Int) < ((3 : Nat) : Int)
    decide
  · show 0 ≤ (0 : Int) ∧ (0 : Int) < ((1 : Nat) : Int)
    decide
  · show 0 ≤ (0 : Int) ∧ (0 : Int) < ((1 : Nat) : Int)
    decide
  · show 0 ≤ (2 : Int) ∧ (2 : Int) < ((6 : Nat) : Int)
    decide
  · show 0 ≤ (9 : Int) ∧ (9 : Int) ≤ 9 ∧ (9 : Int) ≤ 1073741824
    decide
  · show _ = true
    kernel_rfl
theorem knownC_ok : SumOK Try.prog 10 sTrue := sumOK_of_vc (c := cKnownC) (CtxOK.of tabOK refsOK (.cons awake_ok (.cons fails_ok (.cons seesP_ok (.cons labels_ok (.cons places_ok (.cons rulesP_ok (.cons tenantP_ok (.cons belowC_ok (.cons sameInts_ok (.cons sameU_ok (.cons sameK_ok .nil)))))))))))
  (.cons Try.func64 rfl (by decide) .nil) mpsOK) mixed Try.func10 rfl (by decide) @knownC_fun
end Go.Proofs.Ytjcfnooplhoheaa
