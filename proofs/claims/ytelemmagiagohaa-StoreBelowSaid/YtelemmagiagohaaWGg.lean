/- The accounts of rings, put together. -/
import Derived.Test.YtelemmagiagohaaWGf
namespace Go.Proofs.Ytelemmagiagohaa.Rg
open Go Go.Vm
set_option maxRecDepth 10000
theorem mixed : Try.prog.follows .mixedOrders = true := by kernel_rfl
theorem tabOK : tabB Try.prog tab = true := by kernel_rfl
theorem ctxOK {l : List (Nat × Sum)} (h : SumsOK Try.prog l) : CtxOK Try.prog ⟨tab, [], l, [], keep, []⟩ := CtxOK.of tabOK rfl h FunsOK.nil
theorem ctxFOK {l : List (Nat × Sum)} (h : SumsOK Try.prog l) : CtxOK Try.prog ⟨tab, [(123, .nilFunc)], l, [(78, Try.f78), (91, Try.f91)], keep, []⟩ :=
  CtxOK.of tabOK (by kernel_rfl) h (.cons Try.func78 rfl (by decide) (.cons Try.func91 rfl (by decide) .nil))

theorem place_ok : SumOK Try.prog 75 sPlace := sumOK_of_vc (ctxOK .nil) mixed Try.func75 rfl (by decide) @place_fun
theorem event_ok : SumOK Try.prog 76 sEvent := sumOK_of_vc (ctxOK .nil) mixed Try.func76 rfl (by decide) @event_fun
theorem check_ok : SumOK Try.prog 52 sCheck := sumOK_of_vc (c := cCheck) (ctxFOK (.cons place_ok (.cons event_ok .nil))) mixed Try.func52 rfl (by decide) @check_fun
theorem new_ok : SumOK Try.prog 60 sNew := sumOK_of_vc (c := c0) (ctxOK .nil) mixed Try.func60 rfl (by decide) @new_fun
theorem newR_ok : SumOK Try.prog 62 sNew := sumOK_of_vc (c := c0) (ctxOK .nil) mixed Try.func62 rfl (by decide) @newR_fun
theorem len_ok : SumOK Try.prog 71 sLen := sumOK_of_vc (c := cLen) (ctxOK (.cons check_ok .nil)) mixed Try.func71 rfl (by decide) @len_fun
theorem list0R_ok : SumOK Try.prog 77 sList := sumOK_of_vc (c := c0) (ctxOK .nil) mixed Try.func77 rfl (by decide) @listR_fun
theorem from_ok : SumOK Try.prog 92 sFrom := sumOK_of_vc (c := cFrom) (ctxFOK (.cons place_ok (.cons check_ok .nil))) mixed Try.func92 rfl (by decide) @from_fun
theorem listP_ok : SumOK Try.prog 79 sListP := sumOK_of_vc (c := cListP) (ctxOK (.cons from_ok .nil)) mixed Try.func79 rfl (by decide) @listP_fun
theorem get_ok : SumOK Try.prog 45 sGet := sumOK_of_vc (c := cGet) (ctxOK (.cons place_ok (.cons check_ok .nil))) mixed Try.func45 rfl (by decide) @get_fun
theorem put_ok' : SumOK Try.prog 44 sPut := sumOK_of_vc (c := cPut) (ctxOK (.cons len_ok (.cons place_ok (.cons event_ok .nil)))) mixed Try.func44 rfl (by decide) @put_fun
theorem evict_ok : SumOK Try.prog 57 sEvict := sumOK_of_vc (c := cEvict) (ctxOK (.cons check_ok (.cons place_ok .nil))) mixed Try.func57 rfl (by decide) @evict_fun
theorem checkR_ok : SumOK Try.prog 55 sCheck := sumOK_of_vc (c := cCheckR) (ctxOK (.cons list0R_ok .nil)) mixed Try.func55 rfl (by decide) @checkR_fun
theorem cLenR_ok : CtxOK Try.prog cLenR := ctxOK (.cons checkR_ok (.cons list0R_ok .nil))
theorem lenR_ok : SumOK Try.prog 72 sLen := sumOK_of_vc cLenR_ok mixed Try.func72 rfl (by decide) @lenR_fun
theorem listPR_ok : SumOK Try.prog 80 sListP := sumOK_of_vc cLenR_ok mixed Try.func80 rfl (by decide) @listPR_fun
theorem getR_ok : SumOK Try.prog 73 sGet := sumOK_of_vc cLenR_ok mixed Try.func73 rfl (by decide) @getR_fun
theorem same_ok : SumOK Try.prog 29 sSame := sumOK_of_vc (c := c0) (ctxOK .nil) mixed Try.func29 rfl (by decide) @same_fun
end Go.Proofs.Ytelemmagiagohaa.Rg
