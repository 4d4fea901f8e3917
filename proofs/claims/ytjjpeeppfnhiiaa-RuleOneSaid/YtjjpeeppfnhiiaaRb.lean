/- 'RuleOne' gives true for every rule and every event, and changes nothing; there is no condition. -/
import Derived.Test.YtjjpeeppfnhiiaaRa
import Derived.Test.YtjjpeeppfnhiiaaRows
import Derived.ProofKit
namespace Go.Proofs.Ytjjpeeppfnhiiaa
open Go Go.Vm Go.ChangeShapes Go.WideShapes Go.ChangeAt Go.RowKit
set_option maxRecDepth 10000
theorem ruleOne_fun : FunOK cRuleOne 40 Try.f3 sRuleOne :=
  @FunOK.of_eq _ _ _ _ (fun
    | [r, e] => Bears .bool (.B ((checkF r == checkF r) && ((bothF r e == 0 && fitsB r e) == (bothF r e == 0 && fitsB r e)) && (bothF r e == bothF r e) && ((checkF r == 0 && belowB (e.nth 0).int (r.nth 1).int) == (checkF r == 0 && belowB (e.nth 0).int (r.nth 1).int)) && (checkF r == checkF r) && eqD eventS (relF r e) (relF r e) && (relErr r e == relErr r e) && true)) (.B true)
    | _ => True) (by intro _ _ _ _; change _ = _; kernel_rfl) (fun r _ e _ _ => Bears.bool (by
  have : eqD eventS (relF r e) (relF r e) = true := by simp [eqD, eqDs]
  simp [this]))

theorem mixed : Try.prog.follows .mixedOrders = true := by kernel_rfl
theorem tabOK : tabB Try.prog tab = true := by kernel_rfl
theorem ctxOK {l : List (Nat × Sum)} (h : SumsOK Try.prog l) : CtxOK Try.prog ⟨tab, [], l, []⟩ := CtxOK.of tabOK rfl h FunsOK.nil

theorem below_ok : SumOK Try.prog 40 sBelow := sumOK_of_vc (ctxOK .nil) mixed Try.func40 rfl (by decide) below_fun
theorem belowR_ok : SumOK Try.prog 41 sBelow := sumOK_of_vc (ctxOK .nil) mixed Try.func41 rfl (by decide) belowR_fun
theorem part_ok : SumOK Try.prog 42 sPart := sumOK_of_vc (ctxOK (.cons below_ok .nil)) mixed Try.func42 rfl (by decide) part_fun
theorem check_ok : SumOK Try.prog 14 sCheck := sumOK_of_vc (ctxOK (.cons part_ok .nil)) mixed Try.func14 rfl (by decide) check_fun
theorem event_ok : SumOK Try.prog 36 sEvent := sumOK_of_vc (ctxOK .nil) mixed Try.func36 rfl (by decide) event_fun
theorem eventR_ok : SumOK Try.prog 51 sEvent := sumOK_of_vc (ctxOK .nil) mixed Try.func51 rfl (by decide) eventR_fun
theorem checkR_ok : SumOK Try.prog 15 sCheck := sumOK_of_vc (ctxOK (.cons belowR_ok .nil)) mixed Try.func15 rfl (by decide) checkR_fun
theorem fits_ok : SumOK Try.prog 37 sfits := sumOK_of_vc (ctxOK .nil) mixed Try.func37 rfl (by decide) fits_fun
theorem fitsR_ok : SumOK Try.prog 39 sfits := sumOK_of_vc (ctxOK .nil) mixed Try.func39 rfl (by decide) fitsR_fun
theorem both_ok : SumOK Try.prog 38 sBoth := sumOK_of_vc (ctxOK (.cons checkR_ok (.cons eventR_ok .nil))) mixed Try.func38 rfl (by decide) both_fun
theorem Fits_ok : SumOK Try.prog 8 sFits := sumOK_of_vc (ctxOK (.cons check_ok (.cons event_ok (.cons fits_ok .nil)))) mixed Try.func8 rfl (by decide) Fits_fun
theorem FitsR_ok : SumOK Try.prog 9 sFits := sumOK_of_vc (ctxOK (.cons both_ok (.cons fitsR_ok .nil))) mixed Try.func9 rfl (by decide) FitsR_fun
theorem Reaches_ok : SumOK Try.prog 10 sReaches := sumOK_of_vc (ctxOK (.cons check_ok (.cons below_ok .nil))) mixed Try.func10 rfl (by decide) Reaches_fun
theorem ReachesR_ok : SumOK Try.prog 11 sReaches := sumOK_of_vc (ctxOK (.cons checkR_ok (.cons belowR_ok .nil))) mixed Try.func11 rfl (by decide) ReachesR_fun
theorem Release_ok : SumOK Try.prog 12 sRelease := sumOK_of_vc (ctxOK (.cons Fits_ok (.cons below_ok .nil))) mixed Try.func12 rfl (by decide) Release_fun
theorem ReleaseR_ok : SumOK Try.prog 13 sRelease := sumOK_of_vc (ctxOK (.cons both_ok (.cons fitsR_ok (.cons belowR_ok .nil)))) mixed Try.func13 rfl (by decide) ReleaseR_fun
theorem List_ok : SumOK Try.prog 28 sList := sumOK_of_vc (ctxOK (.cons check_ok .nil)) mixed Try.func28 rfl (by decide) List_fun
theorem may_ok : SumOK Try.prog 47 smay := sumOK_of_vc (ctxOK (.cons below_ok .nil)) mixed Try.func47 rfl (by decide) may_fun
theorem May_ok : SumOK Try.prog 21 sMay := sumOK_of_vc (ctxOK (.cons List_ok (.cons may_ok .nil))) mixed Try.func21 rfl (by decide) May_fun
theorem example_ok : SumOK Try.prog 34 sExample := sumOK_of_vc (ctxOK .nil) mixed Try.func34 rfl (by decide) example_fun
theorem one_ok : SumOK Try.prog 35 sOne := sumOK_of_vc (ctxOK (.cons example_ok .nil)) mixed Try.func35 rfl (by decide) one_fun
theorem awake_ok : SumOK Try.prog 16 sTrue := sumOK_of_vc (ctxOK (.cons example_ok (.cons one_ok (.cons Release_ok (.cons Fits_ok (.cons May_ok .nil)))))) mixed Try.func16 rfl (by decide) awake_fun
theorem ruleOne_ok : SumOK Try.prog 3 sRuleOne := sumOK_of_vc (c := cRuleOne) (ctxOK (.cons Fits_ok (.cons FitsR_ok (.cons Reaches_ok (.cons ReachesR_ok (.cons Release_ok (.cons ReleaseR_ok (.cons check_ok (.cons checkR_ok (.cons awake_ok .nil)))))))))) mixed Try.func3 rfl (by decide) @ruleOne_fun

theorem own : ownKnob Try.prog.godebug = none := by kernel_rfl
theorem laid : laidOutB Try.prog = true := by kernel_rfl

set_option maxRecDepth 100000 in
theorem ruleOne_lifted (os : Os) (started : os.Started) (H : Type) (enc : TypeId × Value → H) :
    ReturnsInHanded {} Try.checked os 3 .any (Rows.ruleOneSpec.pre6 enc Try.prog Try.f3 Rows.ruleOneRow.domain false) (Rows.ruleOneSpec.post enc Try.prog Try.f3 false true false false) := by
  refine returnsInHanded_of_change (C := Try.checked) own started (by kernel_rfl) Try.func3
    (ChangeSpec.witness6 (enc := enc) (C := Try.checked) false ⟨#[], #[.agg #[.int .i64 0, .int .u64 0, .int .u64 0, .bool false, .int .i64 0, .int .i64 0, .int .i64 0], .agg #[.int .u64 0, .int .i64 0, .int .i64 0]], []⟩ 8 (by kernel_rfl) (by kernel_rfl) (by kernel_rfl) (by kernel_rfl)) ?_
  intro W base args ds gs before hval hW _ _
  exact law_contract ruleOne_ok Try.func3 rfl (by decide) laid (by kernel_rfl) (fun _ => rfl) (fun _ => trivial) (tb := 4) rfl (by kernel_rfl) rfl
    (fun l hl => by
      match l, hl with
      | [_, _], _ => exact ⟨rfl, rfl, rfl⟩) W base args ds gs before hval hW

theorem ruleOne_holds : Rows.RuleOneSaid :=
  OpenClaim.holds_of_wide 3 Try.f3 rfl rfl rfl rfl rfl rfl rfl ⟨rfl, rfl, rfl, rfl, rfl⟩ rfl rfl rfl rfl rfl (by kernel_rfl) Try.func3 (by kernel_rfl)
    (of_decide_eq_true (by kernel_rfl)) (by unfold Func.isWrapper; first | (rw [if_pos (by decide +kernel)]; kernel_rfl) | (rw [if_neg (by decide +kernel)]; exact ⟨rfl, rfl⟩))
    (fun os started H enc _ => ruleOne_lifted os started H enc)
end Go.Proofs.Ytjjpeeppfnhiiaa
