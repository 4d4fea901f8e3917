/- Cursors: every account, right of the program; CursorTells, CursorMoves. -/
import Derived.Test.YtmdhmjidmiemmaaWQi
namespace Go.Proofs.Ytmdhmjidmiemmaa
open Go Go.Vm Rg
set_option linter.unusedSimpArgs false
set_option linter.unusedVariables false
set_option maxRecDepth 10000
theorem c0Q_ok : CtxOK Try.prog c0Q := CtxOK.of tabQOK refsQOK .nil FunsOK.nil mpsTOK
theorem sees_ok : SumOK Try.prog 55 sSees := sumOK_of_vc (c := c0Q) c0Q_ok mixed Try.func55 rfl (by decide) @sees_fun
theorem seesR_ok : SumOK Try.prog 54 sSees := sumOK_of_vc (c := c0Q) c0Q_ok mixed Try.func54 rfl (by decide) @seesR_fun
theorem cCkQ_ok : CtxOK Try.prog cCkQ := CtxOK.of tabQOK refsQOK (.cons checkT_ok (.cons sees_ok .nil)) (.cons Try.func43 rfl (by decide) (.cons Try.func67 rfl (by decide) .nil)) mpsTOK
theorem cCkR_ok : CtxOK Try.prog cCkR := CtxOK.of tabQOK refsQOK (.cons checkRT_ok (.cons seesR_ok .nil)) FunsOK.nil mpsTOK
theorem ckQ_ok : SumOK Try.prog 22 sCkQ := sumOK_of_vc (c := cCkQ) cCkQ_ok mixed Try.func22 rfl (by decide) @ck_fun
theorem lostQ_ok : SumOK Try.prog 47 sLostQ := sumOK_of_vc (c := cCkQ) cCkQ_ok mixed Try.func47 rfl (by decide) @lost_fun
theorem newQ_ok : SumOK Try.prog 10 sNewQ := sumOK_of_vc (c := cCkQ) cCkQ_ok mixed Try.func10 rfl (by decide) @new_fun
theorem SeesQ_ok : SumOK Try.prog 28 sSeesQ := sumOK_of_vc (c := cCkQ) cCkQ_ok mixed Try.func28 rfl (by decide) @Sees_fun
theorem ckRQ_ok : SumOK Try.prog 23 sCkQ := sumOK_of_vc (c := cCkR) cCkR_ok mixed Try.func23 rfl (by decide) @ckR_fun
theorem lostRQ_ok : SumOK Try.prog 56 sLostQ := sumOK_of_vc (c := cCkR) cCkR_ok mixed Try.func56 rfl (by decide) @lostR_fun
theorem newRQ_ok : SumOK Try.prog 20 sNewQ := sumOK_of_vc (c := cCkR) cCkR_ok mixed Try.func20 rfl (by decide) @newR_fun
theorem SeesRQ_ok : SumOK Try.prog 29 sSeesQ := sumOK_of_vc (c := cCkR) cCkR_ok mixed Try.func29 rfl (by decide) @SeesR_fun
theorem cSkQ_ok : CtxOK Try.prog cSkQ := CtxOK.of tabQOK refsQOK (.cons ckQ_ok (.cons lostQ_ok (.cons sees_ok .nil))) (.cons Try.func43 rfl (by decide) (.cons Try.func67 rfl (by decide) (.cons Try.func59 rfl (by decide) (.cons Try.func78 rfl (by decide) .nil)))) mpsTOK
theorem cSkR_ok : CtxOK Try.prog cSkR := CtxOK.of tabQOK refsQOK (.cons ckRQ_ok (.cons lostRQ_ok (.cons seesR_ok .nil))) FunsOK.nil mpsTOK
theorem skipQ_ok : SumOK Try.prog 34 sSkQ := sumOK_of_vc (c := cSkQ) cSkQ_ok mixed Try.func34 rfl (by decide) @skip_fun
theorem LostQ_ok : SumOK Try.prog 13 sLoQ := sumOK_of_vc (c := cSkQ) cSkQ_ok mixed Try.func13 rfl (by decide) @Lost_fun
theorem skipRQ_ok : SumOK Try.prog 35 sSkQ := sumOK_of_vc (c := cSkR) cSkR_ok mixed Try.func35 rfl (by decide) @skipR_fun
theorem LostRQ_ok : SumOK Try.prog 24 sLoQ := sumOK_of_vc (c := cSkR) cSkR_ok mixed Try.func24 rfl (by decide) @LostR_fun
theorem cHd_ok : CtxOK Try.prog cHd := CtxOK.of tabQOK refsQOK (.cons Rg.from_ok (.cons sees_ok .nil)) (.cons Try.func43 rfl (by decide) (.cons Try.func67 rfl (by decide) .nil)) mpsTOK
theorem headsQ_ok : SumOK Try.prog 74 sHd := sumOK_of_vc (c := cHd) cHd_ok mixed Try.func74 rfl (by decide) @heads_fun
theorem cmpH_ok : SumOK Try.prog 76 sCmpH := sumOK_of_vc (c := c0Q) c0Q_ok mixed Try.func76 rfl (by decide) @cmpH_fun
theorem cFi_ok : CtxOK Try.prog cFi := CtxOK.of tabQOK refsQOK (.cons headsQ_ok (.cons cmpH_ok .nil)) (.cons Try.func75 rfl (by decide) .nil) mpsTOK
theorem firstQ_ok : SumOK Try.prog 57 sFi := sumOK_of_vc (c := cFi) cFi_ok mixed Try.func57 rfl (by decide) @first_fun
theorem cWt_ok : CtxOK Try.prog cWt := (CtxOK.of tabQOK refsQOK (.cons ckQ_ok (.cons sees_ok (.cons Rg.from_ok .nil))) (.cons Try.func43 rfl (by decide) (.cons Try.func67 rfl (by decide) .nil)) mpsTOK : CtxOK Try.prog ⟨tabQ, refsQ, [(22, sCkQ), (55, sSees), (44, Rg.sFrom)], [(43, Try.f43), (67, Try.f67)], keep, mpsT⟩).withM sortQ_ok
theorem waitQ_ok : SumOK Try.prog 12 sWt := sumOK_of_vc (c := cWt) cWt_ok mixed Try.func12 rfl (by decide) @wait_fun
theorem cWtR_ok : CtxOK Try.prog cWtR := CtxOK.of tabQOK refsQOK (.cons listRT_ok (.cons seesR_ok .nil)) FunsOK.nil mpsTOK
theorem waitrQ_ok : SumOK Try.prog 58 sWtR := sumOK_of_vc (c := cWtR) cWtR_ok mixed Try.func58 rfl (by decide) @waitr_fun
theorem cPk_ok : CtxOK Try.prog cPk := CtxOK.of tabQOK refsQOK (.cons ckQ_ok (.cons lostQ_ok (.cons firstQ_ok .nil))) (.cons Try.func59 rfl (by decide) (.cons Try.func78 rfl (by decide) .nil)) mpsTOK
theorem worksQ_ok : SumOK Try.prog 25 sWk := sumOK_of_vc (c := cPk) cPk_ok mixed Try.func25 rfl (by decide) @works_fun
theorem peekQ_ok : SumOK Try.prog 36 sPk := sumOK_of_vc (c := cPk) cPk_ok mixed Try.func36 rfl (by decide) @peek_fun
theorem takeQ_ok : SumOK Try.prog 32 sTk := sumOK_of_vc (c := cPk) cPk_ok mixed Try.func32 rfl (by decide) @take_fun
theorem cPkR_ok : CtxOK Try.prog cPkR := CtxOK.of tabQOK refsQOK (.cons ckRQ_ok (.cons lostRQ_ok (.cons waitrQ_ok .nil))) FunsOK.nil mpsTOK
theorem waitingRQ_ok : SumOK Try.prog 27 sWt := sumOK_of_vc (c := cPkR) cPkR_ok mixed Try.func27 rfl (by decide) @waitingR_fun
theorem worksRQ_ok : SumOK Try.prog 26 sWk := sumOK_of_vc (c := cPkR) cPkR_ok mixed Try.func26 rfl (by decide) @worksR_fun
theorem peekRQ_ok : SumOK Try.prog 37 sPk := sumOK_of_vc (c := cPeR) (CtxOK.of tabQOK refsQOK (.cons waitingRQ_ok .nil) FunsOK.nil mpsTOK) mixed Try.func37 rfl (by decide) @peekR_fun
theorem cTaR_ok : CtxOK Try.prog cTaR := CtxOK.of tabQOK refsQOK (.cons ckRQ_ok (.cons lostRQ_ok (.cons waitingRQ_ok (.cons peekRQ_ok .nil)))) FunsOK.nil mpsTOK
theorem takeRQ_ok : SumOK Try.prog 38 sTk := sumOK_of_vc (c := cTaR) cTaR_ok mixed Try.func38 rfl (by decide) @takeR_fun
theorem sameN_ok : SumOK Try.prog 33 sSameN := sumOK_of_vc (c := c0Q) c0Q_ok mixed Try.func33 rfl (by decide) @sameN_fun
theorem sameE_ok : SumOK Try.prog 15 sSameE := sumOK_of_vc (c := c0Q) c0Q_ok mixed Try.func15 rfl (by decide) @sameE_fun
theorem sameI2_ok : SumOK Try.prog 30 sSameI2 := sumOK_of_vc (c := c0Q) c0Q_ok mixed Try.func30 rfl (by decide) @sameI2_fun
theorem cSaC_ok : CtxOK Try.prog cSaC := CtxOK.of tabQOK refsQOK (.cons sameN_ok .nil) FunsOK.nil mpsTOK
theorem sameC_ok : SumOK Try.prog 21 sSameC := sumOK_of_vc (c := cSaC) cSaC_ok mixed Try.func21 rfl (by decide) @sameC_fun
theorem ownC_ok : SumOK Try.prog 19 sOwnC := sumOK_of_vc (c := c0Q) c0Q_ok mixed Try.func19 rfl (by decide) @ownC_fun
theorem liC_ok : SumOK Try.prog 18 sLiC := sumOK_of_vc (c := c0Q) c0Q_ok mixed Try.func18 rfl (by decide) @liC_fun
theorem cfQ_ok : SumOK Try.prog 60 sCfQ := sumOK_of_vc (c := c0Q) c0Q_ok mixed Try.func60 rfl (by decide) @cfQ_fun
theorem cExQ_ok : CtxOK Try.prog cExQ := CtxOK.of tabQOK refsQOK (.cons cfQ_ok (.cons newRT_ok (.cons putTR_ok .nil))) FunsOK.nil mpsTOK
theorem exQ_ok : SumOK Try.prog 39 sExQ := sumOK_of_vc (c := cExQ) cExQ_ok mixed Try.func39 rfl (by decide) @exQ_fun
theorem cAwQ_ok : CtxOK Try.prog cAwQ := CtxOK.of tabQOK refsQOK (.cons exQ_ok (.cons newQ_ok (.cons waitQ_ok (.cons sameC_ok .nil)))) FunsOK.nil mpsTOK
theorem awQ_ok : SumOK Try.prog 17 sTrueT := sumOK_of_vc (c := cAwQ) cAwQ_ok mixed Try.func17 rfl (by decide) @awQ_fun
def sLawQ : Sum := ⟨[storeS, cursorS], fun _ => none, fun _ => .dat .bool (.B true)⟩
def lawsQ : List (Nat × Sum) := [(18, sLiC), (17, sTrueT), (19, sOwnC), (21, sSameC), (15, sSameE), (30, sSameI2),
  (10, sNewQ), (20, sNewQ), (22, sCkQ), (23, sCkQ), (13, sLoQ), (24, sLoQ), (25, sWk), (26, sWk), (12, sWt), (27, sWt), (28, sSeesQ), (29, sSeesQ),
  (34, sSkQ), (35, sSkQ), (36, sPk), (37, sPk), (32, sTk), (38, sTk)]
def cLawQ : Ctx := ⟨tabQ, refsQ, lawsQ, [], keep, mpsT⟩
theorem cLawQs : SumsOK Try.prog lawsQ := (.cons liC_ok (.cons awQ_ok (.cons ownC_ok (.cons sameC_ok (.cons sameE_ok (.cons sameI2_ok (.cons newQ_ok (.cons newRQ_ok (.cons ckQ_ok (.cons ckRQ_ok (.cons LostQ_ok (.cons LostRQ_ok (.cons worksQ_ok (.cons worksRQ_ok (.cons waitQ_ok (.cons waitingRQ_ok (.cons SeesQ_ok (.cons SeesRQ_ok (.cons skipQ_ok (.cons skipRQ_ok (.cons peekQ_ok (.cons peekRQ_ok (.cons takeQ_ok (.cons takeRQ_ok .nil))))))))))))))))))))))))
theorem cLawQ_ok : CtxOK Try.prog cLawQ := CtxOK.of tabQOK refsQOK cLawQs FunsOK.nil mpsTOK
theorem sameL_rfl {s : Sh} (h : ∀ d, eqD s d d = true) (l : List D) : sameL s l l = true := by
  rw [sameL, beq_self_eq_true, all_range fun k _ => h _]; rfl
theorem sameC_rfl (c : D) : sameC c c = true := by
  rw [sameC, beq_self_eq_true, sameL_rfl (s := u64) fun d => by simp [eqD]]; rfl
theorem liQ_len {s c : D} (h : (!(leB (nG s : Int) 10 && leB ((nx c).length : Int) 20)) = false) : (nx c).length ≤ 1000 := by
  rw [Bool.not_eq_false', Bool.and_eq_true, leB_true, leB_true] at h; omega
theorem tells_fun : FunOK cLawQ 200 Try.f4 sLawQ := fun s hs c hc _ => by
  refine ⟨fun h1 => Bears.bool rfl, fun h1 => ?_⟩
  have h20 : (nx c).length ≤ 1000 := liQ_len h1
  refine ⟨h20, by kernel_rfl, fun h2 => absurd h2 ?_, fun h2 => ⟨fun h3 => absurd h3 ?_, fun h3 => ⟨fun h4 => absurd h4 ?_, fun h4 => ⟨fun h5 => absurd h5 ?_, fun h5 => Bears.bool ?_⟩⟩⟩⟩
  · show ¬ (!sameC (newQ s (cl c)) (newQ s (cl c)) || stE s != stE s || ckE s c != ckE s c) = true
    rw [sameC_rfl, bne_self_eq_false, bne_self_eq_false]; decide
  · show ¬ (loQ s c != loQ s c || ckE s c != ckE s c) = true
    rw [bne_self_eq_false, bne_self_eq_false]; decide
  · show ¬ ((!wkQ s c == wkQ s c) || ckE s c != ckE s c) = true
    rw [bne_self_eq_false]
    cases wkQ s c <;> decide
  · show ¬ (!sameL storedS (wtW s c) (wtW s c) || ckE s c != ckE s c) = true
    rw [sameL_rfl eqStored, bne_self_eq_false]; decide
  · show (sameL i64 (if stE s ≠ 0 then [] else seesQ s (cl c) (nG s)) (if stE s ≠ 0 then [] else seesQ s (cl c) (nG s)) && stE s == stE s && sameC c c && true) = true
    rw [sameL_rfl (s := i64) fun d => by simp [eqD], sameC_rfl, beq_self_eq_true]; rfl
theorem moves_fun : FunOK cLawQ 200 Try.f6 sLawQ := fun s hs c hc _ => by
  refine ⟨fun h1 => Bears.bool rfl, fun h1 => ?_⟩
  have h20 : (nx c).length ≤ 1000 := liQ_len h1
  refine ⟨h20, fun h2 => absurd h2 ?_, fun h2 => ⟨fun h3 => absurd h3 ?_, fun h3 => Bears.bool ?_⟩⟩
  · show ¬ (!sameC (skQ s c) (skQ s c) || loQ s c != loQ s c || ckE s c != ckE s c) = true
    rw [sameC_rfl, bne_self_eq_false, bne_self_eq_false]; decide
  · show ¬ (!eqD storedS (pkX s c) (pkX s c) || pkE s c != pkE s c) = true
    rw [eqStored, bne_self_eq_false]; decide
  · show (sameC (tkC s c) (tkC s c) && eqD storedS (tkX s c) (tkX s c) && tkE s c == tkE s c && sameC c c && true) = true
    rw [sameC_rfl, sameC_rfl, eqStored, beq_self_eq_true]; rfl
theorem tells_ok : SumOK Try.prog 4 sLawQ := sumOK_of_vc (c := cLawQ) cLawQ_ok mixed Try.func4 rfl (by decide) @tells_fun
theorem moves_ok : SumOK Try.prog 6 sLawQ := sumOK_of_vc (c := cLawQ) cLawQ_ok mixed Try.func6 rfl (by decide) @moves_fun
end Go.Proofs.Ytmdhmjidmiemmaa
