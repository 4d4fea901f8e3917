/- Gates: the accounts as summaries. -/
import Derived.Test.YtpfpgjkbnjnjnaaWMc
namespace Go.Proofs.Ytpfpgjkbnjnjnaa
open Go Go.Vm Rg
set_option maxRecDepth 10000
theorem gk_sum : SumOK Try.prog 30 sGk := sumOK_of_vc (c := cGk) (ctxM (.cons Cf.check_ok (.cons checkT_ok (.cons Cf.qCheck_ok .nil)))) mixed Try.func30 rfl (by decide) @gk_fun
theorem pa_sum : SumOK Try.prog 32 sPa := sumOK_of_def (c := cPa) (CtxOK.of tabMOK refsMOK (.cons Cf.use_ok (.cons putT_ok .nil)) (.cons rfl rfl (by decide) .nil) mpsMOK) mixed Try.func32 rfl (by decide) @pa_fun
theorem fd_sum : SumOK Try.prog 12 sFd := sumOK_of_vc (c := cFd) (ctxM (.cons gk_sum (.cons get_ok (.cons Ru.Release_ok .nil)))) mixed Try.func12 rfl (by decide) @fd_fun
theorem rl_sum : SumOK Try.prog 13 sRl := sumOK_of_vc (c := cRl) (ctxM (.cons fd_sum (.cons pa_sum .nil))) mixed Try.func13 rfl (by decide) @rl_fun
theorem se_sum : SumOK Try.prog 15 sSe := sumOK_of_vc (c := cSe) (ctxM (.cons gk_sum (.cons list_ok (.cons Cf.seen_ok .nil)))) mixed Try.func15 rfl (by decide) @se_fun
theorem gn_sum : SumOK Try.prog 24 sGN := sumOK_of_vc (c := cGN) (ctxM (.cons newT_ok' (.cons Cf.qNew_ok .nil))) mixed Try.func24 rfl (by decide) @gn_fun
theorem puA_sum : SumOK Try.prog 21 sPu := sumOK_of_vc (c := cPu) (ctxM (.cons gk_sum (.cons pa_sum .nil))) mixed Try.func21 rfl (by decide) @puA_fun
theorem mayA_sum : SumOK Try.prog 16 sMayA := sumOK_of_vc (c := cMy) (ctxM (.cons puA_sum .nil)) mixed Try.func16 rfl (by decide) @may_fun
theorem sh_sum : SumOK Try.prog 11 sSh := sumOK_of_vc (c := c0M) (ctxM .nil) mixed Try.func11 rfl (by decide) @sh_fun
theorem e_sum : SumOK Try.prog 8 sE := sumOK_of_vc (c := c0M) (ctxM .nil) mixed Try.func8 rfl (by decide) @e_fun
theorem ps_sum : SumOK Try.prog 7 sPs := sumOK_of_vc (c := cPs) (ctxN (.cons sh_sum (.cons gn_sum (.cons puA_sum .nil)))) mixed Try.func7 rfl (by decide) @ps_fun
theorem awk_sum : SumOK Try.prog 18 sTrueT := sumOK_of_vc (c := cAk) (ctxN (.cons sh_sum (.cons e_sum (.cons ps_sum (.cons fd_sum (.cons mayA_sum .nil)))))) mixed Try.func18 rfl (by decide) @awk_fun
theorem cFdR_ok : CtxOK Try.prog cFdR := ctxM .nil
end Go.Proofs.Ytpfpgjkbnjnjnaa
