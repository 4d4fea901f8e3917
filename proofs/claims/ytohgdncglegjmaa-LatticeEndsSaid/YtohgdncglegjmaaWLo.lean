/- Accounts of families of labels, told of the program: orders, examples, ends. -/
import Derived.Test.YtohgdncglegjmaaWLk
import Derived.Test.YtohgdncglegjmaaWLm
namespace Go.Proofs.Ytohgdncglegjmaa
open Go Go.Vm
set_option linter.unusedSimpArgs false
set_option linter.unusedVariables false
set_option maxRecDepth 10000
theorem heightR_ok : SumOK Try.prog 32 sHgt := sumOK_of_vc (c := cJo) (cJoOK) mixed Try.func32 rfl (by decide) @heightR_fun
theorem orders_ok : SumOK Try.prog 7 sOrders := sumOK_of_vc (c := cOr) (ctxL (.cons own_ok (.cons same_ok (.cons sameInts_ok (.cons awake_ok (.cons belowN_ok (.cons belowR_ok (.cons max_ok (.cons maxR_ok (.cons min_ok (.cons minR_ok (.cons chain_ok (.cons chainR_ok (.cons height_ok (.cons heightR_ok .nil))))))))))))))) mixed Try.func7 rfl (by decide) @orders_fun
theorem known_ok : SumOK Try.prog 8 sKnown := sumOK_of_vc (c := cKn) (ctxL (.cons same_ok (.cons sameInts_ok (.cons awake_ok (.cons join_ok (.cons meet_ok (.cons belowN_ok (.cons max_ok (.cons min_ok (.cons chain_ok (.cons height_ok (.cons clo12_ok (.cons cover_ok .nil))))))))))))) mixed Try.func8 rfl (by decide) @known_fun
theorem ends_ok : SumOK Try.prog 6 sEnds := sumOK_of_vc (c := cEn) (ctxL (.cons awake_ok (.cons max_ok (.cons min_ok (.cons chain_ok (.cons height_ok (.cons has_ok .nil))))))) mixed Try.func6 rfl (by decide) @ends_fun
end Go.Proofs.Ytohgdncglegjmaa
