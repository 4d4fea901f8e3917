/- 'AdmitKnown' gives true; there is no condition. -/
import Derived.Test.YtpfpgjkbnjnjnaaWMi
import Derived.Test.YtpfpgjkbnjnjnaaRows
import Derived.ProofKit
namespace Go.Proofs.Ytpfpgjkbnjnjnaa
open Go Go.Vm Go.ChangeShapes Go.WideShapes Go.ChangeAt Go.RowKit
set_option maxRecDepth 10000
theorem own : ownKnob Try.prog.godebug = none := by kernel_rfl
theorem laid : laidOutB Try.prog = true := by kernel_rfl
set_option maxRecDepth 100000 in
theorem admitKnown_lifted (os : Os) (started : os.Started) (H : Type) (enc : TypeId × Value → H) :
    ReturnsInHanded {} Try.checked os 3 .any (Rows.admitKnownSpec.pre6 enc Try.prog Try.f3 Rows.admitKnownRow.domain false) (Rows.admitKnownSpec.post enc Try.prog Try.f3 false true false false) := by
  refine returnsInHanded_of_change (C := Try.checked) own started (by kernel_rfl) Try.func3
    (ChangeSpec.witness6 (enc := enc) (C := Try.checked) false ⟨#[], #[], []⟩ 8 (by kernel_rfl) (by kernel_rfl) (by kernel_rfl) (by kernel_rfl)) ?_
  intro W base args ds gs before hval hW _ _
  exact law_contract known_ok Try.func3 rfl (by decide) laid (by kernel_rfl) (fun _ => rfl) (fun _ => trivial) (tb := 4) rfl (by kernel_rfl) rfl
    (fun l hl => by
      match l, hl with
      | [], _ => exact ⟨rfl, rfl, rfl⟩) W base args ds gs before hval hW

theorem admitKnown_holds : Rows.AdmitKnownSaid :=
  OpenClaim.holds_of_wide 3 Try.f3 rfl rfl rfl rfl rfl rfl rfl ⟨rfl, rfl, rfl, rfl, rfl⟩ rfl rfl rfl rfl rfl (by kernel_rfl) Try.func3 (by kernel_rfl)
    (of_decide_eq_true (by kernel_rfl)) (by unfold Func.isWrapper; first | (rw [if_pos (by decide +kernel)]; kernel_rfl) | (rw [if_neg (by decide +kernel)]; exact ⟨rfl, rfl⟩))
    (fun os started H enc _ => admitKnown_lifted os started H enc)
end Go.Proofs.Ytpfpgjkbnjnjnaa
