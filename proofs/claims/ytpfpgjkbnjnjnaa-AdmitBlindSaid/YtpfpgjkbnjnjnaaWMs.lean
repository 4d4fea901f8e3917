/- 'AdmitBlind' gives true for every number, numbers and clearance, and changes nothing; there is no condition. -/
import Derived.Test.YtpfpgjkbnjnjnaaWMr
import Derived.Test.YtpfpgjkbnjnjnaaRows
import Derived.ProofKit
namespace Go.Proofs.Ytpfpgjkbnjnjnaa
open Go Go.Vm Go.ChangeShapes Go.WideShapes Go.ChangeAt Go.RowKit
set_option maxRecDepth 10000
theorem own : ownKnob Try.prog.godebug = none := by kernel_rfl
theorem laid : laidOutB Try.prog = true := by kernel_rfl
set_option maxRecDepth 100000 in
theorem admitBlind_lifted (os : Os) (started : os.Started) (H : Type) (enc : TypeId × Value → H) :
    ReturnsInHanded {} Try.checked os 6 .any (Rows.admitBlindSpec.pre6 enc Try.prog Try.f6 Rows.admitBlindRow.domain false) (Rows.admitBlindSpec.post enc Try.prog Try.f6 false true false false) := by
  refine returnsInHanded_of_change (C := Try.checked) own started (by kernel_rfl) Try.func6
    (ChangeSpec.witness6 (enc := enc) (C := Try.checked) false ⟨#[], #[Value.int .i64 0, Value.slice none 0 0, Value.int .u64 0], []⟩ 8 (by kernel_rfl) (by kernel_rfl) (by kernel_rfl) (by kernel_rfl)) ?_
  intro W base args ds gs before hval hW _ _
  exact law_contract bld_ok Try.func6 rfl (by decide) laid (by kernel_rfl) (fun _ => rfl) (fun _ => trivial) (tb := 4) rfl (by kernel_rfl) rfl
    (fun l hl => by
      match l, hl with
      | [_, _, _], _ => exact ⟨rfl, rfl, rfl⟩) W base args ds gs before hval hW

theorem admitBlind_holds : Rows.AdmitBlindSaid :=
  OpenClaim.holds_of_wide 6 Try.f6 rfl rfl rfl rfl rfl rfl rfl ⟨rfl, rfl, rfl, rfl, rfl⟩ rfl rfl rfl rfl rfl (by kernel_rfl) Try.func6 (by kernel_rfl)
    (of_decide_eq_true (by kernel_rfl)) (by unfold Func.isWrapper; first | (rw [if_pos (by decide +kernel)]; kernel_rfl) | (rw [if_neg (by decide +kernel)]; exact ⟨rfl, rfl⟩))
    (fun os started H enc _ => admitBlind_lifted os started H enc)
end Go.Proofs.Ytpfpgjkbnjnjnaa
