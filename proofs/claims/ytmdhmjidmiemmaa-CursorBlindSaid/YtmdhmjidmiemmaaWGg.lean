/- The accounts of rings, put together. -/
import Derived.Test.YtmdhmjidmiemmaaWGf
namespace Go.Proofs.Ytmdhmjidmiemmaa.Rg
open Go Go.Vm
set_option maxRecDepth 10000
theorem mixed : Try.prog.follows .mixedOrders = true := by kernel_rfl
theorem tabOK : tabB Try.prog tab = true := by kernel_rfl
theorem ctxOK {l : List (Nat × Sum)} (h : SumsOK Try.prog l) : CtxOK Try.prog ⟨tab, [], l, [], keep, []⟩ := CtxOK.of tabOK rfl h FunsOK.nil
theorem ctxFOK {l : List (Nat × Sum)} (h : SumsOK Try.prog l) : CtxOK Try.prog ⟨tab, [(119, .nilFunc)], l, [(68, Try.f68), (85, Try.f85)], keep, []⟩ :=
  CtxOK.of tabOK (by kernel_rfl) h (.cons Try.func68 rfl (by decide) (.cons Try.func85 rfl (by decide) .nil))

theorem place_ok : SumOK Try.prog 86 sPlace := sumOK_of_vc (ctxOK .nil) mixed Try.func86 rfl (by decide) @place_fun
theorem event_ok : SumOK Try.prog 82 sEvent := sumOK_of_vc (ctxOK .nil) mixed Try.func82 rfl (by decide) @event_fun
theorem check_ok : SumOK Try.prog 64 sCheck := sumOK_of_vc (c := cCheck) (ctxFOK (.cons place_ok (.cons event_ok .nil))) mixed Try.func64 rfl (by decide) @check_fun
theorem newR_ok : SumOK Try.prog 62 sNew := sumOK_of_vc (c := c0) (ctxOK .nil) mixed Try.func62 rfl (by decide) @newR_fun
theorem list0R_ok : SumOK Try.prog 73 sList := sumOK_of_vc (c := c0) (ctxOK .nil) mixed Try.func73 rfl (by decide) @listR_fun
theorem from_ok : SumOK Try.prog 44 sFrom := sumOK_of_vc (c := cFrom) (ctxFOK (.cons place_ok (.cons check_ok .nil))) mixed Try.func44 rfl (by decide) @from_fun
theorem listP_ok : SumOK Try.prog 83 sListP := sumOK_of_vc (c := cListP) (ctxOK (.cons from_ok .nil)) mixed Try.func83 rfl (by decide) @listP_fun
theorem checkR_ok : SumOK Try.prog 71 sCheck := sumOK_of_vc (c := cCheckR) (ctxOK (.cons list0R_ok .nil)) mixed Try.func71 rfl (by decide) @checkR_fun
theorem cLenR_ok : CtxOK Try.prog cLenR := ctxOK (.cons checkR_ok (.cons list0R_ok .nil))
theorem listPR_ok : SumOK Try.prog 97 sListP := sumOK_of_vc cLenR_ok mixed Try.func97 rfl (by decide) @listPR_fun
end Go.Proofs.Ytmdhmjidmiemmaa.Rg
