/- Accounts of families of labels, told of the program: closures. -/
import Derived.Test.YtohgdncglegjmaaWZh
namespace Go.Proofs.Ytohgdncglegjmaa
open Go Go.Vm
set_option linter.unusedSimpArgs false
set_option linter.unusedVariables false
set_option maxRecDepth 10000
theorem so_ok {B : Nat} (h : B ≤ 1000000) : MutOK Try.prog 55 (mSo B) := fun g w x xs ds v0 vs h1 h2 h3 h4 h5 h6 =>
  sortZ_ok g w x xs ds v0 vs h1 h2 h3 h4 h5 (show xs.length ≤ 1000000 from Nat.le_trans h6 h)
theorem clo256_ok : SumOK Try.prog 10 (sCloB 256) := clo_ok (so_ok (by decide))
theorem cloF_ok : SumOK Try.prog 10 sClo := fun g w ds vs h1 h2 _ => clo256_ok g w ds vs h1 h2 (by
  match ds with
  | [l] => exact Nat.lt_or_ge 256 (cloR l.list).length |>.symm
  | [] => trivial
  | _ :: _ :: _ => trivial)
theorem put_ok : SumOK Try.prog 43 sPut := sumOK_of_vc (c := cL0) (ctxL .nil) mixed Try.func43 rfl (by decide) @put_fun
theorem cloRef_ok : SumOK Try.prog 20 sClo := sumOK_of_vc (c := cCR) (ctxL (.cons famR_ok (.cons put_ok .nil))) mixed Try.func20 rfl (by decide) @cloRef_fun
theorem closed_ok : SumOK Try.prog 3 sClosed := sumOK_of_vc (c := cCd) (ctxL (.cons cloF_ok (.cons hasU_ok (.cons same_ok (.cons awake_ok .nil))))) mixed Try.func3 rfl (by decide) @closed_fun
theorem joins_ok : SumOK Try.prog 4 sJoins := sumOK_of_vc (c := cJs) (ctxL (.cons own_ok (.cons same_ok (.cons awake_ok (.cons join_ok (.cons joinR_ok (.cons meet_ok (.cons meetR_ok (.cons cover_ok (.cons coverR_ok (.cons cloF_ok (.cons cloRef_ok .nil)))))))))))) mixed Try.func4 rfl (by decide) @joins_fun
end Go.Proofs.Ytohgdncglegjmaa
