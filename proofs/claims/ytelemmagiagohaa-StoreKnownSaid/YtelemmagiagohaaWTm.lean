/- Stores: StoreKnown. -/
import Derived.Test.YtelemmagiagohaaWTk
namespace Go.Proofs.Ytelemmagiagohaa
open Go Go.Vm Rg
set_option linter.unusedSimpArgs false
set_option linter.unusedVariables false
set_option maxRecDepth 10000
def twoD : D := putT (putT (newT (exA 6)) (evD1 2 0 5)) (evD1 0 1 6)
def sTwoD : Sum := ⟨[], fun _ => none, fun _ => .dat storeS twoD⟩
theorem twoD_ok : SumOK Try.prog 39 sTwoD := two_ok
def cKn : Ctx := ⟨tabT, refsT, [(39, sTwoD), (10, sTrueT), (12, sPutT), (30, sClass), (32, sRoom), (34, sAt), (27, sGetT), (26, sListT), (23, sBelT), (17, sTick)], [], keep, mpsT⟩
theorem cKn_ok : CtxOK Try.prog cKn := ctxT (.cons twoD_ok (.cons awake_ok (.cons putT_ok (.cons class_ok (.cons room_ok (.cons at_ok (.cons get_ok (.cons list_ok (.cons belT_ok' (.cons tickT_ok .nil))))))))))
set_option maxHeartbeats 2000000 in
theorem knownT_fun : FunOK cKn 200 Try.f7 sTrueT := fun _ => by
  have n0 : (0 : Int) ≤ 0 := Int.le_refl 0
  have n1 : (0 : Int) ≤ 1 := by decide
  have l0 : (0 : Int) < ((listT twoD).length : Int) := of_decide_eq_true (by kernel_rfl)
  have l1 : (1 : Int) < ((listT twoD).length : Int) := of_decide_eq_true (by kernel_rfl)
  have l2 : (0 : Int) < ((listT (belT twoD 0)).length : Int) := of_decide_eq_true (by kernel_rfl)
  refine ⟨fun h1 => (notSo (by kernel_rfl) h1).elim, fun h1 => ⟨fun h2 => (notSo (by kernel_rfl) h2).elim, fun h2 => ⟨fun h3 => (notSo (by kernel_rfl) h3).elim, fun h3 => ⟨fun h4 => ⟨n0, l0⟩, fun h4 => ⟨n0, l2⟩, fun h4 => ⟨n1, l1⟩, by kernel_rfl, Bears.bool (by kernel_rfl)⟩⟩⟩⟩
theorem knownT_ok : SumOK Try.prog 7 sTrueT := sumOK_of_vc cKn_ok mixed Try.func7 rfl (by decide) @knownT_fun
end Go.Proofs.Ytelemmagiagohaa
