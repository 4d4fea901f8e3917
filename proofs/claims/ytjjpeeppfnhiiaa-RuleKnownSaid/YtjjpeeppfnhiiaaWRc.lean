/- Accounts of rules: what is right of one rule's functions. -/
import Derived.Test.YtjjpeeppfnhiiaaWRa
import Derived.Test.YtjjpeeppfnhiiaaWKa
import Derived.KernelRfl
namespace Go.Proofs.Ytjjpeeppfnhiiaa
open Go Go.Vm
set_option linter.unusedSimpArgs false
set_option linter.unusedVariables false
set_option maxRecDepth 10000
theorem mixed : Try.prog.follows .mixedOrders = true := by kernel_rfl
theorem tabOK : tabB Try.prog tab = true := by kernel_rfl
theorem ctxOK {l : List (Nat × Sum)} (h : SumsOK Try.prog l) : CtxOK Try.prog ⟨tab, [], l, [], [], []⟩ := CtxOK.of tabOK rfl h FunsOK.nil

theorem below_ok : SumOK Try.prog 40 sBelow := sumOK_of_vc (ctxOK .nil) mixed Try.func40 rfl (by decide) below_fun
theorem belowR_ok : SumOK Try.prog 41 sBelow := sumOK_of_vc (ctxOK .nil) mixed Try.func41 rfl (by decide) belowR_fun
theorem part_ok : SumOK Try.prog 42 sPart := sumOK_of_vc (ctxOK (.cons below_ok .nil)) mixed Try.func42 rfl (by decide) part_fun
theorem check_ok : SumOK Try.prog 14 sCheck := sumOK_of_vc (ctxOK (.cons part_ok .nil)) mixed Try.func14 rfl (by decide) check_fun
theorem event_ok : SumOK Try.prog 36 sEvent := sumOK_of_vc (ctxOK .nil) mixed Try.func36 rfl (by decide) event_fun
theorem eventR_ok : SumOK Try.prog 51 sEvent := sumOK_of_vc (ctxOK .nil) mixed Try.func51 rfl (by decide) eventR_fun
theorem checkR_ok : SumOK Try.prog 15 sCheck := sumOK_of_vc (ctxOK (.cons belowR_ok .nil)) mixed Try.func15 rfl (by decide) checkR_fun
theorem fits_ok : SumOK Try.prog 37 sfits := sumOK_of_vc (ctxOK .nil) mixed Try.func37 rfl (by decide) fits_fun
theorem fitsR_ok : SumOK Try.prog 39 sfits := sumOK_of_vc (ctxOK .nil) mixed Try.func39 rfl (by decide) fitsR_fun
theorem both_ok : SumOK Try.prog 38 sBoth := sumOK_of_vc (ctxOK (.cons checkR_ok (.cons eventR_ok .nil))) mixed Try.func38 rfl (by decide) both_fun
theorem Fits_ok : SumOK Try.prog 8 sFits := sumOK_of_vc (ctxOK (.cons check_ok (.cons event_ok (.cons fits_ok .nil)))) mixed Try.func8 rfl (by decide) Fits_fun
theorem FitsR_ok : SumOK Try.prog 9 sFits := sumOK_of_vc (ctxOK (.cons both_ok (.cons fitsR_ok .nil))) mixed Try.func9 rfl (by decide) FitsR_fun
theorem Reaches_ok : SumOK Try.prog 10 sReaches := sumOK_of_vc (ctxOK (.cons check_ok (.cons below_ok .nil))) mixed Try.func10 rfl (by decide) Reaches_fun
theorem ReachesR_ok : SumOK Try.prog 11 sReaches := sumOK_of_vc (ctxOK (.cons checkR_ok (.cons belowR_ok .nil))) mixed Try.func11 rfl (by decide) ReachesR_fun
theorem Release_ok : SumOK Try.prog 12 sRelease := sumOK_of_vc (ctxOK (.cons Fits_ok (.cons below_ok .nil))) mixed Try.func12 rfl (by decide) Release_fun
theorem ReleaseR_ok : SumOK Try.prog 13 sRelease := sumOK_of_vc (ctxOK (.cons both_ok (.cons fitsR_ok (.cons belowR_ok .nil)))) mixed Try.func13 rfl (by decide) ReleaseR_fun
theorem List_ok : SumOK Try.prog 28 sList := sumOK_of_vc (ctxOK (.cons check_ok .nil)) mixed Try.func28 rfl (by decide) List_fun
theorem may_ok : SumOK Try.prog 47 smay := sumOK_of_vc (ctxOK (.cons below_ok .nil)) mixed Try.func47 rfl (by decide) may_fun
theorem May_ok : SumOK Try.prog 21 sMay := sumOK_of_vc (ctxOK (.cons List_ok (.cons may_ok .nil))) mixed Try.func21 rfl (by decide) May_fun
theorem example_ok : SumOK Try.prog 34 sExample := sumOK_of_vc (ctxOK .nil) mixed Try.func34 rfl (by decide) example_fun
theorem one_ok : SumOK Try.prog 35 sOne := sumOK_of_vc (ctxOK (.cons example_ok .nil)) mixed Try.func35 rfl (by decide) one_fun
theorem awake_ok : SumOK Try.prog 16 sTrue := sumOK_of_vc (ctxOK (.cons example_ok (.cons one_ok (.cons Release_ok (.cons Fits_ok (.cons May_ok .nil)))))) mixed Try.func16 rfl (by decide) awake_fun
end Go.Proofs.Ytjjpeeppfnhiiaa
