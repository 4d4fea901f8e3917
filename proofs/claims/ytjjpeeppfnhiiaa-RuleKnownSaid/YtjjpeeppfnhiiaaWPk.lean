/- RuleKnown: the chapter's examples. -/
import Derived.Test.YtjjpeeppfnhiiaaWPg
namespace Go.Proofs.Ytjjpeeppfnhiiaa
open Go Go.Vm
set_option linter.unusedSimpArgs false
set_option linter.unusedVariables false
set_option maxRecDepth 10000
def sKn : Sum := ⟨[], fun _ => none, fun _ => .dat .bool (.B true)⟩
def cKn : Ctx := ⟨tabK, [], [(34, sExample), (35, sOne), (8, sFits), (10, sReaches), (21, sMay), (12, sRelease), (20, sWhich), (31, sSameI i64),
  (23, sFlows), (24, sSameI u64), (26, sDown), (14, sCheck), (16, sTrue)], [], keep, []⟩
theorem keyF {s : Nat} {b : Bool} (h : b = false) : KeyCond [(s, false, b)] := h
theorem notSo {P : Prop} (h : P = (false = true)) (p : P) : False := by rw [h] at p; cases p
theorem kn_fun : FunOK cKn 60 Try.f7 sKn := fun _ => by
  exact ⟨fun h1 => (notSo (by kernel_rfl) h1).elim, fun _ => ⟨keyF (by kernel_rfl), trivial, fun h2 => (notSo (by kernel_rfl) h2).elim, fun _ => ⟨keyF (by kernel_rfl), trivial, keyF (by kernel_rfl), trivial, fun h3 => (notSo (by kernel_rfl) h3).elim, fun _ => Bears.bool (by kernel_rfl)⟩⟩⟩
theorem kn_ok : SumOK Try.prog 7 sKn := sumOK_of_vc (c := cKn) (ctxK (.cons example_ok (.cons one_ok (.cons Fits_ok (.cons Reaches_ok (.cons May_ok (.cons Release_ok (.cons which_ok (.cons sameInts_ok (.cons flows_ok (.cons sameU_ok (.cons down_ok (.cons check_ok (.cons awake_ok .nil)))))))))))))) mixed Try.func7 rfl (by decide) @kn_fun
end Go.Proofs.Ytjjpeeppfnhiiaa
