/- 'AdmitPuts' gives true for every configuration, gate, event and text, and changes nothing; there is no condition. -/
import Derived.Test.YtpfpgjkbnjnjnaaGreatWMg
import Derived.Test.YtpfpgjkbnjnjnaaGreatRows
import Derived.ProofKit
namespace Go.Proofs.YtpfpgjkbnjnjnaaGreat
open Go Go.Vm Go.ChangeShapes Go.WideShapes Go.ChangeAt Go.RowKit
set_option maxRecDepth 10000
theorem own : ownKnob Tryz.prog.godebug = none := by kernel_rfl
theorem laid : laidOutB Tryz.prog = true := by kernel_rfl
set_option maxRecDepth 100000 in
theorem admitPuts_lifted (os : Os) (started : os.Started) (H : Type) (enc : TypeId × Value → H) :
    ReturnsInHanded {} Tryz.checked os 4 .any (Rows.admitPutsSpec.pre6 enc Tryz.prog Tryz.f4 Rows.admitPutsRow.domain false) (Rows.admitPutsSpec.post enc Tryz.prog Tryz.f4 false true false false) := by
  refine returnsInHanded_of_change (C := Tryz.checked) own started (by kernel_rfl) Tryz.func4
    (ChangeSpec.witness6 (enc := enc) (C := Tryz.checked) false ⟨#[], #[.agg (([Value.slice none 0 0] ++ List.replicate 30 (Value.int .i64 0) ++ [Value.slice none 0 0, Value.int .u64 0]).toArray), .agg #[Value.slice none 0 0, Value.int .u64 0, Value.int .u64 0, Value.int .u64 0, Value.slice none 0 0], .agg #[Value.int .u64 0, Value.int .i64 0, Value.int .i64 0], Value.string ByteArray.empty], []⟩ 8 (by kernel_rfl) (by kernel_rfl) (by kernel_rfl) (by kernel_rfl)) ?_
  intro W base args ds gs before hval hW _ _
  exact law_contract puts_sum Tryz.func4 rfl (by decide) laid (by kernel_rfl) (fun _ => rfl) (fun _ => trivial) (tb := 4) rfl (by kernel_rfl) rfl
    (fun l hl => by
      match l, hl with
      | [_, _, _, _], _ => exact ⟨rfl, rfl, rfl⟩) W base args ds gs before hval hW

theorem admitPuts_holds : Rows.AdmitPutsSaid :=
  OpenClaim.holds_of_wide 4 Tryz.f4 rfl rfl rfl rfl rfl rfl rfl ⟨rfl, rfl, rfl, rfl, rfl⟩ rfl rfl rfl rfl rfl (by kernel_rfl) Tryz.func4 (by kernel_rfl)
    (of_decide_eq_true (by kernel_rfl)) (by unfold Func.isWrapper; first | (rw [if_pos (by decide +kernel)]; kernel_rfl) | (rw [if_neg (by decide +kernel)]; exact ⟨rfl, rfl⟩))
    (fun os started H enc _ => admitPuts_lifted os started H enc)
end Go.Proofs.YtpfpgjkbnjnjnaaGreat
