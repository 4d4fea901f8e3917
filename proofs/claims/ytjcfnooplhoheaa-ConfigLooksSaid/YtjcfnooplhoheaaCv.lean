/- Accounts of configurations: the law of what is looked at. -/
import Derived.Test.YtjcfnooplhoheaaCu
namespace Go.Proofs.Ytjcfnooplhoheaa
open Go Go.Vm
set_option linter.unusedSimpArgs false
set_option linter.unusedVariables false
set_option maxRecDepth 10000
theorem sameU_ok : SumOK Try.prog 59 sSameU := sumOK_of_vc (c := c0) (ctxOK .nil) mixed Try.func59 rfl (by decide) @sameU_fun
theorem plOK : CtxOK Try.prog cPl := ctxOK (.cons seesP_ok (.cons seesR_ok (.cons below_ok (.cons belowR_ok (.cons okR_ok .nil)))))
theorem places_ok : SumOK Try.prog 60 sPlaces := sumOK_of_vc (c := cPl) plOK mixed Try.func60 rfl (by decide) @places_fun
theorem placesR_ok : SumOK Try.prog 61 sPlaces := sumOK_of_vc (c := cPl) plOK mixed Try.func61 rfl (by decide) @placesR_fun
theorem belowC_ok : SumOK Try.prog 62 sBelC := sumOK_of_vc (c := cPl) plOK mixed Try.func62 rfl (by decide) @belowC_fun
theorem belowCR_ok : SumOK Try.prog 63 sBelC := sumOK_of_vc (c := cPl) plOK mixed Try.func63 rfl (by decide) @belowCR_fun
theorem labOK : CtxOK Try.prog cLab := (ctxOK (.cons seesP_ok (.cons seesR_ok .nil))).withM sort_ok
theorem labels_ok : SumOK Try.prog 57 sLabS := sumOK_of_vc (c := cLab) labOK mixed Try.func57 rfl (by decide) @labelsC_fun
theorem labelsR_ok : SumOK Try.prog 58 sLabS := sumOK_of_vc (c := cLab) labOK mixed Try.func58 rfl (by decide) @labelsCR_fun
def cCLooks : Ctx := ⟨tab, refs, [(14, sLight), (15, sTrue), (25, sOwnC), (51, sCheckC), (52, sCheckC), (53, sClassC), (54, sClassC), (55, sSees), (56, sSees), (20, sSameI), (57, sLabS), (58, sLabS), (59, sSameU), (60, sPlaces), (61, sPlaces), (62, sBelC), (63, sBelC), (36, sSameC)], [], keep, mps⟩
def sLawCL : Sum := ⟨[configS, u64], fun _ => none, fun _ => .dat .bool (.B true)⟩
theorem clooks_fun : FunOK cCLooks 200 Try.f9 sLawCL := fun c hc l hl _ => by
  refine ⟨fun h1 => Bears.bool rfl, fun h1 => ⟨?_, fun h2 => ?_, fun h2 => ⟨fun h3 => ?_, fun h3 => ⟨fun h4 => ?_, fun h4 => ⟨fun h5 => ?_, fun h5 => Bears.bool ?_⟩⟩⟩⟩⟩
  · replace h1 : (!(leB (nC c) 12 && leB (nR c) 12)) = false := h1
    simp only [Bool.not_eq_false', Bool.and_eq_true, leB_true] at h1
    show nC c ≤ 1000 ∧ nR c ≤ 1000
    omega
  · replace h2 : (chE c != chE c || chA c != chA c) = true := h2
    simp at h2
  · replace h3 : (clN c l.int != clN c l.int || clX c l.int != clX c l.int) = true := h3
    simp at h3
  · replace h4 : (!sameI (if chE c ≠ 0 then [] else pick (seeB c l.int) (nC c)) (if chE c ≠ 0 then [] else pick (seeB c l.int) (nC c)) || chE c != chE c) = true := h4
    rw [sameI_rfl] at h4
    simp at h4
  · replace h5 : (!sameI (labS c l.int) (labS c l.int) || chE c != chE c) = true := h5
    rw [sameI_rfl] at h5
    simp at h5
  · show (plS c l.int == plS c l.int && chE c == chE c && sameC (belC c l.int) (belC c l.int) && chE c == chE c && sameC c c && true) = true
    simp only [beq_self_eq_true, sameC_rfl, Bool.and_self]
theorem clooks_ok : SumOK Try.prog 9 sLawCL := sumOK_of_vc (c := cCLooks) (ctxOK (.cons light_ok (.cons awake_ok (.cons ownC_ok (.cons check_ok (.cons checkR_ok (.cons classP_ok (.cons classR_ok (.cons seesP_ok (.cons seesR_ok (.cons sameInts_ok (.cons labels_ok (.cons labelsR_ok (.cons sameU_ok (.cons places_ok (.cons placesR_ok (.cons belowC_ok (.cons belowCR_ok (.cons sameK_ok .nil))))))))))))))))))) mixed Try.func9 rfl (by decide) @clooks_fun
end Go.Proofs.Ytjcfnooplhoheaa
