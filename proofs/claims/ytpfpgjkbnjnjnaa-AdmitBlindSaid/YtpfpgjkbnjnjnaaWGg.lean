/- The accounts of rings, put together. -/
import Derived.Test.YtpfpgjkbnjnjnaaWGf
namespace Go.Proofs.Ytpfpgjkbnjnjnaa.Rg
open Go Go.Vm
set_option maxRecDepth 10000
theorem mixed : Try.prog.follows .mixedOrders = true := by kernel_rfl
theorem tabOK : tabB Try.prog tab = true := by kernel_rfl
theorem ctxOK {l : List (Nat × Sum)} (h : SumsOK Try.prog l) : CtxOK Try.prog ⟨tab, [], l, [], keep, []⟩ := CtxOK.of tabOK rfl h FunsOK.nil
theorem ctxFOK {l : List (Nat × Sum)} (h : SumsOK Try.prog l) : CtxOK Try.prog ⟨tab, [(192, .nilFunc)], l, [(85, Try.f85), (95, Try.f95)], keep, []⟩ :=
  CtxOK.of tabOK (by kernel_rfl) h (.cons Try.func85 rfl (by decide) (.cons Try.func95 rfl (by decide) .nil))

theorem place_ok : SumOK Try.prog 79 sPlace := sumOK_of_vc (ctxOK .nil) mixed Try.func79 rfl (by decide) @place_fun
theorem event_ok : SumOK Try.prog 86 sEvent := sumOK_of_vc (ctxOK .nil) mixed Try.func86 rfl (by decide) @event_fun
theorem check_ok : SumOK Try.prog 63 sCheck := sumOK_of_vc (c := cCheck) (ctxFOK (.cons place_ok (.cons event_ok .nil))) mixed Try.func63 rfl (by decide) @check_fun
theorem new_ok : SumOK Try.prog 59 sNew := sumOK_of_vc (c := c0) (ctxOK .nil) mixed Try.func59 rfl (by decide) @new_fun
theorem len_ok : SumOK Try.prog 92 sLen := sumOK_of_vc (c := cLen) (ctxOK (.cons check_ok .nil)) mixed Try.func92 rfl (by decide) @len_fun
theorem from_ok : SumOK Try.prog 93 sFrom := sumOK_of_vc (c := cFrom) (ctxFOK (.cons place_ok (.cons check_ok .nil))) mixed Try.func93 rfl (by decide) @from_fun
theorem listP_ok : SumOK Try.prog 75 sListP := sumOK_of_vc (c := cListP) (ctxOK (.cons from_ok .nil)) mixed Try.func75 rfl (by decide) @listP_fun
theorem get_ok : SumOK Try.prog 73 sGet := sumOK_of_vc (c := cGet) (ctxOK (.cons place_ok (.cons check_ok .nil))) mixed Try.func73 rfl (by decide) @get_fun
theorem put_ok' : SumOK Try.prog 72 sPut := sumOK_of_vc (c := cPut) (ctxOK (.cons len_ok (.cons place_ok (.cons event_ok .nil)))) mixed Try.func72 rfl (by decide) @put_fun
theorem evict_ok : SumOK Try.prog 55 sEvict := sumOK_of_vc (c := cEvict) (ctxOK (.cons check_ok (.cons place_ok .nil))) mixed Try.func55 rfl (by decide) @evict_fun
theorem cLenR_ok : CtxOK Try.prog cLenR := ctxOK .nil
theorem same_ok : SumOK Try.prog 26 sSame := sumOK_of_vc (c := c0) (ctxOK .nil) mixed Try.func26 rfl (by decide) @same_fun
end Go.Proofs.Ytpfpgjkbnjnjnaa.Rg
