/- The accounts of rings, put together. -/
import Derived.Test.YtlmokgfjfogdoaaGf
namespace Go.Proofs.Ytlmokgfjfogdoaa
open Go Go.Vm
set_option maxRecDepth 10000
theorem mixed : Try.prog.follows .mixedOrders = true := by kernel_rfl
theorem tabOK : tabB Try.prog tab = true := by kernel_rfl
theorem ctxOK {l : List (Nat × Sum)} (h : SumsOK Try.prog l) : CtxOK Try.prog ⟨tab, [], l, [], keep, []⟩ := CtxOK.of tabOK rfl h FunsOK.nil
theorem ctxFOK {l : List (Nat × Sum)} (h : SumsOK Try.prog l) : CtxOK Try.prog ⟨tab, [(64, .nilFunc)], l, [(36, Try.f36), (38, Try.f38)], keep, []⟩ :=
  CtxOK.of tabOK (by kernel_rfl) h (.cons Try.func36 rfl (by decide) (.cons Try.func38 rfl (by decide) .nil))

theorem place_ok : SumOK Try.prog 35 sPlace := sumOK_of_vc (ctxOK .nil) mixed Try.func35 rfl (by decide) @place_fun
theorem event_ok : SumOK Try.prog 37 sEvent := sumOK_of_vc (ctxOK .nil) mixed Try.func37 rfl (by decide) @event_fun
theorem check_ok : SumOK Try.prog 23 sCheck := sumOK_of_vc (c := cCheck) (ctxFOK (.cons place_ok (.cons event_ok .nil))) mixed Try.func23 rfl (by decide) @check_fun
theorem new_ok : SumOK Try.prog 21 sNew := sumOK_of_vc (c := c0) (ctxOK .nil) mixed Try.func21 rfl (by decide) @new_fun
theorem newR_ok : SumOK Try.prog 22 sNew := sumOK_of_vc (c := c0) (ctxOK .nil) mixed Try.func22 rfl (by decide) @newR_fun
theorem len_ok : SumOK Try.prog 9 sLen := sumOK_of_vc (c := cLen) (ctxOK (.cons check_ok .nil)) mixed Try.func9 rfl (by decide) @len_fun
theorem list0R_ok : SumOK Try.prog 34 sList := sumOK_of_vc (c := c0) (ctxOK .nil) mixed Try.func34 rfl (by decide) @listR_fun
theorem from_ok : SumOK Try.prog 16 sFrom := sumOK_of_vc (c := cFrom) (ctxFOK (.cons place_ok (.cons check_ok .nil))) mixed Try.func16 rfl (by decide) @from_fun
theorem listP_ok : SumOK Try.prog 11 sListP := sumOK_of_vc (c := cListP) (ctxOK (.cons from_ok .nil)) mixed Try.func11 rfl (by decide) @listP_fun
theorem get_ok : SumOK Try.prog 14 sGet := sumOK_of_vc (c := cGet) (ctxOK (.cons place_ok (.cons check_ok .nil))) mixed Try.func14 rfl (by decide) @get_fun
theorem lost_ok : SumOK Try.prog 18 sLost := sumOK_of_vc (c := cLost) (ctxOK (.cons check_ok .nil)) mixed Try.func18 rfl (by decide) @lost_fun
theorem put_ok' : SumOK Try.prog 25 sPut := sumOK_of_vc (c := cPut) (ctxOK (.cons len_ok (.cons place_ok (.cons event_ok .nil)))) mixed Try.func25 rfl (by decide) @put_fun
theorem evict_ok : SumOK Try.prog 27 sEvict := sumOK_of_vc (c := cEvict) (ctxOK (.cons check_ok (.cons place_ok .nil))) mixed Try.func27 rfl (by decide) @evict_fun
theorem checkR_ok : SumOK Try.prog 24 sCheck := sumOK_of_vc (c := cCheckR) (ctxOK (.cons list0R_ok .nil)) mixed Try.func24 rfl (by decide) @checkR_fun
theorem cLenR_ok : CtxOK Try.prog cLenR := ctxOK (.cons checkR_ok (.cons list0R_ok .nil))
theorem lenR_ok : SumOK Try.prog 10 sLen := sumOK_of_vc cLenR_ok mixed Try.func10 rfl (by decide) @lenR_fun
theorem listPR_ok : SumOK Try.prog 12 sListP := sumOK_of_vc cLenR_ok mixed Try.func12 rfl (by decide) @listPR_fun
theorem getR_ok : SumOK Try.prog 15 sGet := sumOK_of_vc cLenR_ok mixed Try.func15 rfl (by decide) @getR_fun
theorem fromR_ok : SumOK Try.prog 17 sFrom := sumOK_of_vc cLenR_ok mixed Try.func17 rfl (by decide) @fromR_fun
theorem lostR_ok : SumOK Try.prog 19 sLost := sumOK_of_vc cLenR_ok mixed Try.func19 rfl (by decide) @lostR_fun
theorem same_ok : SumOK Try.prog 13 sSame := sumOK_of_vc (c := c0) (ctxOK .nil) mixed Try.func13 rfl (by decide) @same_fun
theorem one_ok : SumOK Try.prog 29 sOne := sumOK_of_vc (c := cOne) (ctxOK (.cons new_ok (.cons put_ok' .nil))) mixed Try.func29 rfl (by decide) @one_fun
theorem ev_ok : SumOK Try.prog 30 sEv := sumOK_of_vc (c := c0) (ctxOK .nil) mixed Try.func30 rfl (by decide) @ev_fun
theorem lostB_ok : SumOK Try.prog 31 sLostB := sumOK_of_vc (c := cLostB) (ctxOK (.cons lost_ok .nil)) mixed Try.func31 rfl (by decide) @lostB_fun
theorem awake_ok : SumOK Try.prog 20 sTrue := sumOK_of_vc (c := cAwake) (ctxOK (.cons one_ok (.cons ev_ok (.cons lostB_ok (.cons get_ok (.cons lost_ok .nil)))))) mixed Try.func20 rfl (by decide) @awake_fun
theorem looks_ok : SumOK Try.prog 3 sLooks := sumOK_of_vc (c := cLooks) (ctxOK (.cons len_ok (.cons lenR_ok (.cons listP_ok (.cons listPR_ok (.cons same_ok (.cons get_ok (.cons getR_ok (.cons from_ok (.cons fromR_ok (.cons lost_ok (.cons lostR_ok (.cons awake_ok .nil))))))))))))) mixed Try.func3 rfl (by decide) @looks_fun
end Go.Proofs.Ytlmokgfjfogdoaa
