/- The accounts of rings, put together. -/
import Derived.Test.YtpfpgjkbnjnjnaaGreatWGf
namespace Go.Proofs.YtpfpgjkbnjnjnaaGreat.Rg
open Go Go.Vm
set_option maxRecDepth 10000
theorem mixed : Tryz.prog.follows .mixedOrders = true := by kernel_rfl
theorem tabOK : tabB Tryz.prog tab = true := by kernel_rfl
theorem ctxOK {l : List (Nat × Sum)} (h : SumsOK Tryz.prog l) : CtxOK Tryz.prog ⟨tab, [], l, [], keep, []⟩ := CtxOK.of tabOK rfl h FunsOK.nil
theorem ctxFOK {l : List (Nat × Sum)} (h : SumsOK Tryz.prog l) : CtxOK Tryz.prog ⟨tab, [(185, .nilFunc)], l, [(126, Tryz.f126), (140, Tryz.f140)], keep, []⟩ :=
  CtxOK.of tabOK (by kernel_rfl) h (.cons Tryz.func126 rfl (by decide) (.cons Tryz.func140 rfl (by decide) .nil))

theorem place_ok : SumOK Tryz.prog 133 sPlace := sumOK_of_vc (ctxOK .nil) mixed Tryz.func133 rfl (by decide) @place_fun
theorem event_ok : SumOK Tryz.prog 127 sEvent := sumOK_of_vc (ctxOK .nil) mixed Tryz.func127 rfl (by decide) @event_fun
theorem check_ok : SumOK Tryz.prog 84 sCheck := sumOK_of_vc (c := cCheck) (ctxFOK (.cons place_ok (.cons event_ok .nil))) mixed Tryz.func84 rfl (by decide) @check_fun
theorem new_ok : SumOK Tryz.prog 76 sNew := sumOK_of_vc (c := c0) (ctxOK .nil) mixed Tryz.func76 rfl (by decide) @new_fun
theorem newR_ok : SumOK Tryz.prog 80 sNew := sumOK_of_vc (c := c0) (ctxOK .nil) mixed Tryz.func80 rfl (by decide) @newR_fun
theorem len_ok : SumOK Tryz.prog 139 sLen := sumOK_of_vc (c := cLen) (ctxOK (.cons check_ok .nil)) mixed Tryz.func139 rfl (by decide) @len_fun
theorem list0R_ok : SumOK Tryz.prog 128 sList := sumOK_of_vc (c := c0) (ctxOK .nil) mixed Tryz.func128 rfl (by decide) @listR_fun
theorem from_ok : SumOK Tryz.prog 134 sFrom := sumOK_of_vc (c := cFrom) (ctxFOK (.cons place_ok (.cons check_ok .nil))) mixed Tryz.func134 rfl (by decide) @from_fun
theorem listP_ok : SumOK Tryz.prog 101 sListP := sumOK_of_vc (c := cListP) (ctxOK (.cons from_ok .nil)) mixed Tryz.func101 rfl (by decide) @listP_fun
theorem get_ok : SumOK Tryz.prog 113 sGet := sumOK_of_vc (c := cGet) (ctxOK (.cons place_ok (.cons check_ok .nil))) mixed Tryz.func113 rfl (by decide) @get_fun
theorem put_ok' : SumOK Tryz.prog 112 sPut := sumOK_of_vc (c := cPut) (ctxOK (.cons len_ok (.cons place_ok (.cons event_ok .nil)))) mixed Tryz.func112 rfl (by decide) @put_fun
theorem evict_ok : SumOK Tryz.prog 95 sEvict := sumOK_of_vc (c := cEvict) (ctxOK (.cons check_ok (.cons place_ok .nil))) mixed Tryz.func95 rfl (by decide) @evict_fun
theorem checkR_ok : SumOK Tryz.prog 87 sCheck := sumOK_of_vc (c := cCheckR) (ctxOK (.cons list0R_ok .nil)) mixed Tryz.func87 rfl (by decide) @checkR_fun
theorem cLenR_ok : CtxOK Tryz.prog cLenR := ctxOK (.cons checkR_ok (.cons list0R_ok .nil))
theorem listPR_ok : SumOK Tryz.prog 119 sListP := sumOK_of_vc cLenR_ok mixed Tryz.func119 rfl (by decide) @listPR_fun
theorem getR_ok : SumOK Tryz.prog 105 sGet := sumOK_of_vc cLenR_ok mixed Tryz.func105 rfl (by decide) @getR_fun
theorem same_ok : SumOK Tryz.prog 16 sSame := sumOK_of_vc (c := c0) (ctxOK .nil) mixed Tryz.func16 rfl (by decide) @same_fun
end Go.Proofs.YtpfpgjkbnjnjnaaGreat.Rg
