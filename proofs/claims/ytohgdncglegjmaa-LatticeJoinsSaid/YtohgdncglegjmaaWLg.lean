/- Accounts of families of labels, told of the program. -/
import Derived.Test.YtohgdncglegjmaaWLf
namespace Go.Proofs.Ytohgdncglegjmaa
open Go Go.Vm
set_option linter.unusedSimpArgs false
set_option linter.unusedVariables false
set_option maxRecDepth 10000
theorem below_ok : SumOK Try.prog 41 sBelow := sumOK_of_vc (c := cL0) (ctxL .nil) mixed Try.func41 rfl (by decide) @below_fun
theorem atMost_ok : SumOK Try.prog 42 sBelow := sumOK_of_vc (c := cL0) (ctxL .nil) mixed Try.func42 rfl (by decide) @atMost_fun
theorem fam_ok : SumOK Try.prog 33 sFam := sumOK_of_vc (c := cL0) (ctxL .nil) mixed Try.func33 rfl (by decide) @fam_fun
theorem famR_ok : SumOK Try.prog 38 sFam := sumOK_of_vc (c := cL0) (ctxL .nil) mixed Try.func38 rfl (by decide) @famR_fun
theorem has_ok : SumOK Try.prog 22 sHas := sumOK_of_vc (c := cL0) (ctxL .nil) mixed Try.func22 rfl (by decide) @has_fun
theorem hasU_ok : SumOK Try.prog 11 sHasU := sumOK_of_vc (c := cL0) (ctxL .nil) mixed Try.func11 rfl (by decide) @hasU_fun
theorem same_ok : SumOK Try.prog 12 (sSameI u64) := sumOK_of_vc (c := cL0) (ctxL .nil) mixed Try.func12 rfl (by decide) @sameU_fun
theorem sameInts_ok : SumOK Try.prog 28 (sSameI i64) := sumOK_of_vc (c := cL0) (ctxL .nil) mixed Try.func28 rfl (by decide) @sameInts_fun
theorem own_ok : SumOK Try.prog 13 cloneS := sumOK_of_vc (c := cL0) (ctxL .nil) mixed Try.func13 rfl (by decide) @own_fun
theorem cJnOK : CtxOK Try.prog cJn := CtxOK.of (c := cJn) tabLOK refsLOK (.cons fam_ok .nil) (.cons Try.func39 rfl (by decide) (.cons Try.func56 rfl (by decide) (.cons Try.func40 rfl (by decide) .nil))) mpsLOK
theorem join0_ok : SumOK Try.prog 37 sJoin0 := sumOK_of_vc (c := cJn) (cJnOK) mixed Try.func37 rfl (by decide) @join0_fun
theorem meet_ok : SumOK Try.prog 16 sMeet := sumOK_of_vc (c := cJn) (cJnOK) mixed Try.func16 rfl (by decide) @meetU_fun
theorem cJoOK : CtxOK Try.prog cJo := ctxL (.cons fam_ok (.cons famR_ok (.cons join0_ok (.cons below_ok (.cons atMost_ok .nil)))))
theorem join_ok : SumOK Try.prog 14 sJoin := sumOK_of_vc (c := cJo) (cJoOK) mixed Try.func14 rfl (by decide) @joinU_fun
theorem joinR_ok : SumOK Try.prog 15 sJoin := sumOK_of_vc (c := cJo) (cJoOK) mixed Try.func15 rfl (by decide) @joinR_fun
theorem meetR_ok : SumOK Try.prog 17 sMeet := sumOK_of_vc (c := cJo) (cJoOK) mixed Try.func17 rfl (by decide) @meetR_fun
theorem cover_ok : SumOK Try.prog 18 sCover := sumOK_of_vc (c := cJo) (cJoOK) mixed Try.func18 rfl (by decide) @coverU_fun
theorem coverR_ok : SumOK Try.prog 19 sCover := sumOK_of_vc (c := cJo) (cJoOK) mixed Try.func19 rfl (by decide) @coverR_fun
theorem belowR_ok : SumOK Try.prog 27 sBelN := sumOK_of_vc (c := cJo) (cJoOK) mixed Try.func27 rfl (by decide) @belowR_fun
theorem maxR_ok : SumOK Try.prog 29 (sNum lessI) := sumOK_of_vc (c := cJo) (cJoOK) mixed Try.func29 rfl (by decide) @maxR_fun
theorem minR_ok : SumOK Try.prog 30 (sNum lessR) := sumOK_of_vc (c := cJo) (cJoOK) mixed Try.func30 rfl (by decide) @minR_fun
theorem chainR_ok : SumOK Try.prog 31 sChain := sumOK_of_vc (c := cJo) (cJoOK) mixed Try.func31 rfl (by decide) @chainR_fun
theorem cNuOK : CtxOK Try.prog cNu := CtxOK.of (c := cNu) tabLOK refsLOK (.cons fam_ok (.cons below_ok .nil)) (.cons Try.func44 rfl (by decide) (.cons Try.func45 rfl (by decide) (.cons Try.func47 rfl (by decide) (.cons Try.func48 rfl (by decide) (.cons Try.func46 rfl (by decide) .nil))))) mpsLOK
theorem belowN_ok : SumOK Try.prog 21 sBelN := sumOK_of_vc (c := cNu) (cNuOK) mixed Try.func21 rfl (by decide) @belowU_fun
theorem max_ok : SumOK Try.prog 23 (sNum lessI) := sumOK_of_vc (c := cNu) (cNuOK) mixed Try.func23 rfl (by decide) @maxU_fun
theorem min_ok : SumOK Try.prog 24 (sNum lessR) := sumOK_of_vc (c := cNu) (cNuOK) mixed Try.func24 rfl (by decide) @minU_fun
theorem chain_ok : SumOK Try.prog 25 sChain := sumOK_of_vc (c := cNu) (cNuOK) mixed Try.func25 rfl (by decide) @chainU_fun
noncomputable def cClo0 : Ctx := ⟨tabL, refsC, [(33, sFam)], [(34, Try.f34), (36, Try.f36), (53, Try.f53), (35, Try.f35), (54, Try.f54)], keep, mpsL⟩
theorem cClo0OK : CtxOK Try.prog cClo0 := CtxOK.of (c := cClo0) tabLOK refsCOK (.cons fam_ok .nil) (.cons Try.func34 rfl (by decide) (.cons Try.func36 rfl (by decide) (.cons Try.func53 rfl (by decide) (.cons Try.func35 rfl (by decide) (.cons Try.func54 rfl (by decide) .nil))))) mpsLOK
theorem clo_ok {B : Nat} (h : MutOK Try.prog 55 (mSo B)) : SumOK Try.prog 10 (sCloB B) := sumOK_of_vc (c := cClo B) (cClo0OK.withM h) mixed Try.func10 rfl (by decide) (@clo_fun B)
theorem clo12_ok : SumOK Try.prog 10 (sCloB 12) := clo_ok sort_ok
theorem awake_ok : SumOK Try.prog 9 sTrue := sumOK_of_vc (c := cAw) (ctxL (.cons join_ok (.cons clo12_ok (.cons same_ok .nil)))) mixed Try.func9 rfl (by decide) @awake_fun
theorem bounds_ok : SumOK Try.prog 5 sBounds := sumOK_of_vc (c := cBo) (ctxL (.cons join_ok (.cons meet_ok (.cons belowN_ok (.cons has_ok (.cons awake_ok .nil)))))) mixed Try.func5 rfl (by decide) @bounds_fun
end Go.Proofs.Ytohgdncglegjmaa
