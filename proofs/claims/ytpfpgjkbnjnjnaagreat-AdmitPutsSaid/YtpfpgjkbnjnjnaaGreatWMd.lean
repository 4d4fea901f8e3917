/- Gates: the accounts as summaries. -/
import Derived.Test.YtpfpgjkbnjnjnaaGreatWMc
namespace Go.Proofs.YtpfpgjkbnjnjnaaGreat
open Go Go.Vm Rg
set_option maxRecDepth 10000
theorem gk_sum : SumOK Tryz.prog 21 sGk := sumOK_of_vc (c := cGk) (ctxM (.cons Cf.check_ok (.cons checkT_ok (.cons Cf.qCheck_ok .nil)))) mixed Tryz.func21 rfl (by decide) @gk_fun
theorem pa_sum : SumOK Tryz.prog 40 sPa := sumOK_of_def (c := cPa) (CtxOK.of tabMOK refsMOK (.cons Cf.use_ok (.cons putT_ok .nil)) (.cons rfl rfl (by decide) .nil) mpsMOK) mixed Tryz.func40 rfl (by decide) @pa_fun
theorem fd_sum : SumOK Tryz.prog 9 sFd := sumOK_of_vc (c := cFd) (ctxM (.cons gk_sum (.cons get_ok (.cons Ru.Release_ok .nil)))) mixed Tryz.func9 rfl (by decide) @fd_fun
theorem rl_sum : SumOK Tryz.prog 11 sRl := sumOK_of_vc (c := cRl) (ctxM (.cons fd_sum (.cons pa_sum .nil))) mixed Tryz.func11 rfl (by decide) @rl_fun
theorem se_sum : SumOK Tryz.prog 14 sSe := sumOK_of_vc (c := cSe) (ctxM (.cons gk_sum (.cons list_ok (.cons Cf.seen_ok .nil)))) mixed Tryz.func14 rfl (by decide) @se_fun
theorem gn_sum : SumOK Tryz.prog 19 sGN := sumOK_of_vc (c := cGN) (ctxM (.cons newT_ok' (.cons Cf.qNew_ok .nil))) mixed Tryz.func19 rfl (by decide) @gn_fun
theorem puA_sum : SumOK Tryz.prog 25 sPu := sumOK_of_vc (c := cPu) (ctxM (.cons gk_sum (.cons pa_sum .nil))) mixed Tryz.func25 rfl (by decide) @puA_fun
theorem mayA_sum : SumOK Tryz.prog 23 sMayA := sumOK_of_vc (c := cMy) (ctxM (.cons puA_sum .nil)) mixed Tryz.func23 rfl (by decide) @may_fun
theorem sh_sum : SumOK Tryz.prog 34 sSh := sumOK_of_vc (c := c0M) (ctxM .nil) mixed Tryz.func34 rfl (by decide) @sh_fun
theorem e_sum : SumOK Tryz.prog 33 sE := sumOK_of_vc (c := c0M) (ctxM .nil) mixed Tryz.func33 rfl (by decide) @e_fun
theorem ps_sum : SumOK Tryz.prog 32 sPs := sumOK_of_vc (c := cPs) (ctxN (.cons sh_sum (.cons gn_sum (.cons puA_sum .nil)))) mixed Tryz.func32 rfl (by decide) @ps_fun
theorem awk_sum : SumOK Tryz.prog 6 sTrueT := sumOK_of_vc (c := cAk) (ctxN (.cons sh_sum (.cons e_sum (.cons ps_sum (.cons fd_sum (.cons mayA_sum .nil)))))) mixed Tryz.func6 rfl (by decide) @awk_fun
theorem gkR_sum : SumOK Tryz.prog 22 sGk := sumOK_of_vc (c := cGkR) (ctxM (.cons Cf.checkR_ok (.cons checkRT_ok (.cons Cf.qCheckR_ok .nil)))) mixed Tryz.func22 rfl (by decide) @gkR_fun
theorem paR_sum : SumOK Tryz.prog 41 sPaR := sumOK_of_vc (c := cPaR) (ctxM (.cons Cf.useR_ok (.cons putTR_ok .nil))) mixed Tryz.func41 rfl (by decide) @paR_fun
theorem of_sum : SumOK Tryz.prog 67 sOf := sumOK_of_vc (c := c0M) (ctxM .nil) mixed Tryz.func67 rfl (by decide) @of_fun
theorem ffR_sum : SumOK Tryz.prog 39 sFf := sumOK_of_vc (c := cFfR) (ctxM (.cons Cf.below01_ok (.cons getRT_ok (.cons of_sum (.cons Ru.ReleaseR_ok .nil))))) mixed Tryz.func39 rfl (by decide) @ffR_fun
theorem cFdR_ok : CtxOK Tryz.prog cFdR := ctxM (.cons gkR_sum (.cons ffR_sum (.cons paR_sum .nil)))
theorem fdR_sum : SumOK Tryz.prog 10 sFd := sumOK_of_vc cFdR_ok mixed Tryz.func10 rfl (by decide) @fdR_fun
theorem rlR_sum : SumOK Tryz.prog 12 sRl := sumOK_of_vc cFdR_ok mixed Tryz.func12 rfl (by decide) @rlR_fun
theorem seR_sum : SumOK Tryz.prog 15 sSe := sumOK_of_vc (c := cSeR) (ctxM (.cons gkR_sum (.cons listRT_ok (.cons Cf.seenR_ok (.cons Cf.below01_ok .nil))))) mixed Tryz.func15 rfl (by decide) @seR_fun
theorem ownG_sum : SumOK Tryz.prog 8 sOwnG := sumOK_of_vc (c := cOg) (ctxM (.cons own12_ok (.cons Cf.ownInts_ok .nil))) mixed Tryz.func8 rfl (by decide) @ownG_fun
theorem lightM_sum : SumOK Tryz.prog 5 sLightM := sumOK_of_vc (c := cLm) (ctxM (.cons lightC_ok .nil)) mixed Tryz.func5 rfl (by decide) @lightM_fun
theorem sameGt_sum : SumOK Tryz.prog 13 sSameG := sumOK_of_vc (c := cSg) (ctxM (.cons sameT_ok (.cons Cf.sameInts_ok .nil))) mixed Tryz.func13 rfl (by decide) @sameGt_fun
theorem cLr_ok : CtxOK Tryz.prog cLr := ctxM (.cons lightM_sum (.cons awk_sum (.cons Cf.ownC_ok (.cons ownG_sum (.cons fd_sum (.cons fdR_sum (.cons rl_sum (.cons rlR_sum (.cons sameGt_sum (.cons se_sum (.cons seR_sum (.cons same_ok (.cons Cf.sameInts_ok (.cons Cf.sameK_ok .nil))))))))))))))
theorem releases_sum : SumOK Tryz.prog 3 sLawR := sumOK_of_vc cLr_ok mixed Tryz.func3 rfl (by decide) @releases_fun
end Go.Proofs.YtpfpgjkbnjnjnaaGreat
