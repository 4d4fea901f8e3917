/- Accounts of rings: 'RingKnown'. -/
import Derived.Test.YtlmokgfjfogdoaaGg
namespace Go.Proofs.Ytlmokgfjfogdoaa
open Go Go.Vm
set_option linter.unusedSimpArgs false
set_option maxRecDepth 10000
def cKnown : Ctx := ⟨tab, [], [(21, sNew), (29, sOne), (25, sPut), (27, sEvict), (16, sFrom), (30, sEv), (13, sSame), (31, sLostB), (20, sTrue)], [], keep, []⟩
theorem known_fun : FunOK cKnown 60 Try.f5 sTrue := @FunOK.of_eq _ _ _ _ (fun _ => (((true : Bool) = true) → ((0 : Int) ≤ 0 ∧ (0 : Int) < ((64 : Nat) : Int))) ∧ (true = true) ∧ Bears .bool (.B true) (.B true)) (by change _ = _; kernel_rfl) (fun _ => ⟨fun _ => by decide, rfl, Bears.bool rfl⟩)
theorem known_ok : SumOK Try.prog 5 sTrue := sumOK_of_vc (c := cKnown) (ctxOK (.cons new_ok (.cons one_ok (.cons put_ok' (.cons evict_ok (.cons from_ok (.cons ev_ok (.cons same_ok (.cons lostB_ok (.cons awake_ok .nil)))))))))) mixed Try.func5 rfl (by decide) @known_fun
end Go.Proofs.Ytlmokgfjfogdoaa
