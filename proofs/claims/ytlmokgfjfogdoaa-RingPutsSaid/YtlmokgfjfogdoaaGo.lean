/- 'RingPuts' gives true for every ring and all numbers, and changes nothing; there is no condition. -/
import Derived.Test.YtlmokgfjfogdoaaGn
import Derived.Test.YtlmokgfjfogdoaaRows
import Derived.ProofKit
namespace Go.Proofs.Ytlmokgfjfogdoaa
open Go Go.Vm Go.ChangeShapes Go.WideShapes Go.ChangeAt Go.RowKit
set_option maxRecDepth 10000
theorem own : ownKnob Try.prog.godebug = none := by kernel_rfl
theorem laid : laidOutB Try.prog = true := by kernel_rfl
def ringV : Value := .agg (([Value.int .u64 0, Value.int .i64 0, Value.int .u64 0, Value.int .u64 0] ++ (List.replicate 64 [Value.int .u64 0, Value.int .u64 0, Value.int .u64 0, Value.int .u64 0, Value.int .i64 0, Value.int .i64 0]).flatten).toArray)

set_option maxRecDepth 100000 in
theorem ringPuts_lifted (os : Os) (started : os.Started) (H : Type) (enc : TypeId × Value → H) :
    ReturnsInHanded {} Try.checked os 4 .any (Rows.ringPutsSpec.pre6 enc Try.prog Try.f4 Rows.ringPutsRow.domain false) (Rows.ringPutsSpec.post enc Try.prog Try.f4 false true false false) := by
  refine returnsInHanded_of_change (C := Try.checked) own started (by kernel_rfl) Try.func4
    (ChangeSpec.witness6 (enc := enc) (C := Try.checked) false ⟨#[], #[ringV, .int .i64 0, .int .u64 0, .int .u64 0, .int .i64 0, .int .i64 0, .int .u64 0, .int .u64 0], []⟩ 8 (by kernel_rfl) (by kernel_rfl) (by kernel_rfl) (by kernel_rfl)) ?_
  intro W base args ds gs before hval hW _ _
  exact law_contract puts_ok Try.func4 rfl (by decide) laid (by kernel_rfl) (fun _ => rfl) (fun _ => trivial) (tb := 4) rfl (by kernel_rfl) rfl
    (fun l hl => by
      match l, hl with
      | [_, _, _, _, _, _, _, _], _ => exact ⟨rfl, rfl, rfl⟩) W base args ds gs before hval hW

theorem ringPuts_holds : Rows.RingPutsSaid :=
  OpenClaim.holds_of_wide 4 Try.f4 rfl rfl rfl rfl rfl rfl rfl ⟨rfl, rfl, rfl, rfl, rfl⟩ rfl rfl rfl rfl rfl (by kernel_rfl) Try.func4 (by kernel_rfl)
    (of_decide_eq_true (by kernel_rfl)) (by unfold Func.isWrapper; first | (rw [if_pos (by decide +kernel)]; kernel_rfl) | (rw [if_neg (by decide +kernel)]; exact ⟨rfl, rfl⟩))
    (fun os started H enc _ => ringPuts_lifted os started H enc)
end Go.Proofs.Ytlmokgfjfogdoaa
