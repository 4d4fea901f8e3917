/- Accounts of rings: the reference's Evict. -/
import Derived.Test.YtpfpgjkbnjnjnaaWGm
namespace Go.Proofs.Ytpfpgjkbnjnjnaa.Rg
open Go Go.Vm
set_option linter.unusedSimpArgs false
set_option linter.unusedVariables false
set_option maxRecDepth 10000

/-! ### RingPuts -/
def cPuts : Ctx := ⟨tab, [], [(59, sNew), (63, sCheck), (72, sPut), (55, sEvict)], [], keep, []⟩
def sPuts : Sum := ⟨[ringS, i64, u64, u64, i64, i64, u64, u64], fun _ => none, fun _ => .dat .bool (.B true)⟩
theorem eqRing (d : D) : eqD ringS d d = true := by simp [eqD, eqDs]
end Go.Proofs.Ytpfpgjkbnjnjnaa.Rg
