/- Streams: StreamLooks' law. -/
import Derived.Test.YtmcgebhffdedpaaWWd
import Derived.Test.YtmcgebhffdedpaaWWe
namespace Go.Proofs.Ytmcgebhffdedpaa
open Go Go.Vm
set_option linter.unusedSimpArgs false
set_option linter.unusedVariables false
set_option maxRecDepth 10000
def cLo : Ctx := ⟨tabW, refsW, [(4, sTrue), (5, cloneS), (10, sSame), (6, sChk), (7, sChk),
  (8, sFil pVis), (9, sFil pVis), (11, sFil pCls), (12, sFil pCls), (13, sFil pUp), (14, sFil pUp),
  (15, sFil pFr), (16, sFil pFr), (17, sPre), (18, sPre), (19, sLab), (20, sLab), (21, sFind), (22, sFind)], [], keep, mpsW⟩
def sLooks : Sum := ⟨[.slice storedS, u64, u64, i64, idS], fun _ => none, fun _ => .dat .bool (.B true)⟩
theorem noSS {a e : Int} {x : D} (h : (!sameB x x || e != e) = true) : False := by rw [sameB_rfl x] at h; simp at h
theorem noII {a e : Int} (h : (a != a || e != e) = true) : False := by simp at h
theorem looks_fun : FunOK cLo 100 Try.f3 sLooks := fun l hl top ht tick hk n hn d hd _ => by
  refine ⟨fun h1 => Bears.bool rfl, fun h1 => ⟨?_, fun h2 => ?_, fun h2 => ⟨fun h3 => ?_, fun h3 => ⟨fun h4 => ?_, fun h4 => ⟨fun h5 => ?_, fun h5 => ⟨fun h6 => ?_, fun h6 => ⟨fun h7 => ?_, fun h7 => ⟨fun h8 => ?_, fun h8 => ?_⟩⟩⟩⟩⟩⟩⟩⟩
  · replace h1 : (ltB 40 (l.list.length : Int) && leB (l.list.length : Int) 1000 || ltB 1002 (l.list.length : Int)) = false := h1
    simp only [Bool.or_eq_false_iff, ltB_false] at h1
    show l.list.length ≤ 1073741824
    omega
  · exact (noII (a := chkE l.list) (e := chkN l.list) h2).elim
  · exact (noSS (a := 0) (x := .L (filL (pVis top.int) l.list)) (e := chkE l.list) h3).elim
  · exact (noSS (a := 0) (x := .L (filL (pCls top.int) l.list)) (e := chkE l.list) h4).elim
  · exact (noSS (a := 0) (x := .L (filL (pUp tick.int) l.list)) (e := chkE l.list) h5).elim
  · exact (noSS (a := 0) (x := .L (filL (pFr tick.int) l.list)) (e := chkE l.list) h6).elim
  · exact (noSS (a := 0) (x := .L (preL l.list n.int)) (e := preE l.list n.int) h7).elim
  · exact (noII (a := ((labL l.list).length : Int)) (e := chkE l.list) h8).elim
  clear h2 h3 h4 h5 h6 h7 h8
  refine ⟨{ i : Nat // i ≤ (labL l.list).length }, 1, fun i => ([(20, .dat i64 (.I i.1)), (19, .dat (.slice u64) (.L (labL l.list))), (18, .dat (.slice u64) (.L (labL l.list))), (11, .dat (.slice storedS) l), (9, .ptr 0 idS [] idS), (0, .dat (.slice storedS) l)], [(0, .box idS (.dat idS d))]), fun i => (labL l.list).length - i.1,
    ⟨0, Nat.zero_le _⟩, ⟨[], rfl, ⟨rfl, rfl, rfl, rfl, rfl, rfl, trivial⟩, ⟨rfl, trivial⟩⟩, ?_⟩
  intro i
  obtain ⟨i, hi⟩ := i
  refine ⟨fun h1 => ⟨?_, ?_, by kernel_rfl, fun h2 => ?_, fun h2 => ?_⟩, fun h1 => Bears.bool ?_⟩
  · exact ix (ltN h1)
  · exact ix (ltN h1)
  · replace h2 : (((labL l.list).getD i .Z).int != ((labL l.list).getD i .Z).int) = true := h2
    simp at h2
  · have h1 : i < (labL l.list).length := ltN h1
    have hl : (labL l.list).length ≤ 1002 := by
      by_cases h0 : chkE l.list = 0
      · have := chk_len h0
        have := lblI_len l.list
        rw [lab_0 h0, nums, List.length_map]; omega
      · rw [lab_1 h0]; decide
    exact ⟨⟨i + 1, h1⟩, ⟨[], rfl, ⟨slot (i64_1 (n := i) (by omega)), rfl, rfl, rfl, rfl, rfl, trivial⟩, ⟨rfl, trivial⟩⟩, stepLt h1⟩
  · show (fndV l.list d == fndV l.list d && fndE l.list d == fndE l.list d && sameB l l && true) = true
    rw [sameB_rfl]; simp
theorem c0W_ok : CtxOK Try.prog c0W := CtxOK.of tabWOK refsWOK .nil FunsOK.nil mpsWOK
theorem cnt_ok : SumOK Try.prog 27 sCnt := sumOK_of_vc (c := c0W) c0W_ok mixedW Try.func27 rfl (by decide) @cnt_fun
theorem cntR_ok : SumOK Try.prog 28 sCnt := sumOK_of_vc (c := c0W) c0W_ok mixedW Try.func28 rfl (by decide) @cntR_fun
theorem last_ok : SumOK Try.prog 29 sLast := sumOK_of_vc (c := c0W) c0W_ok mixedW Try.func29 rfl (by decide) @last_fun
theorem cCk_ok : CtxOK Try.prog cCk := CtxOK.of tabWOK refsWOK (.cons cnt_ok .nil) FunsOK.nil mpsWOK
theorem chk_ok : SumOK Try.prog 6 sChk := sumOK_of_vc (c := cCk) cCk_ok mixedW Try.func6 rfl (by decide) @chk_fun
theorem cCkR_ok : CtxOK Try.prog cCkR := CtxOK.of tabWOK refsWOK (.cons cntR_ok (.cons last_ok .nil)) FunsOK.nil mpsWOK
theorem chkR_ok : SumOK Try.prog 7 sChk := sumOK_of_vc (c := cCkR) cCkR_ok mixedW Try.func7 rfl (by decide) @chkR_fun
theorem same_ok : SumOK Try.prog 10 sSame := sumOK_of_vc (c := c0W) c0W_ok mixedW Try.func10 rfl (by decide) @same_fun
theorem own_ok : SumOK Try.prog 5 cloneS := sumOK_of_vc (c := c0W) c0W_ok mixedW Try.func5 rfl (by decide) @own_fun
theorem below_ok : SumOK Try.prog 32 sBelow := sumOK_of_vc (c := c0W) c0W_ok mixedW Try.func32 rfl (by decide) @below_fun
theorem cOk_ok : CtxOK Try.prog cOk := CtxOK.of tabWOK refsWOK (.cons chkR_ok .nil) FunsOK.nil mpsWOK
theorem okR_ok : SumOK Try.prog 33 sOk := sumOK_of_vc (c := cOk) cOk_ok mixedW Try.func33 rfl (by decide) @ok_fun
theorem cFi_ok : CtxOK Try.prog cFi := CtxOK.of tabWOK refsWOK (.cons chk_ok (.cons below_ok .nil)) (.cons Try.func30 rfl (by decide) (.cons Try.func41 rfl (by decide) (.cons Try.func31 rfl (by decide) (.cons Try.func34 rfl (by decide) (.cons Try.func35 rfl (by decide) (.cons Try.func36 rfl (by decide) .nil)))))) mpsWOK
theorem cFiR_ok : CtxOK Try.prog cFiR := CtxOK.of tabWOK refsWOK (.cons okR_ok .nil) FunsOK.nil mpsWOK
theorem vis_ok : SumOK Try.prog 8 (sFil pVis) := sumOK_of_vc (c := cFi) cFi_ok mixedW Try.func8 rfl (by decide) @vis_fun
theorem visR_ok : SumOK Try.prog 9 (sFil pVis) := sumOK_of_vc (c := cFiR) cFiR_ok mixedW Try.func9 rfl (by decide) @visR_fun
theorem cls_ok : SumOK Try.prog 11 (sFil pCls) := sumOK_of_vc (c := cFi) cFi_ok mixedW Try.func11 rfl (by decide) @cls_fun
theorem clsR_ok : SumOK Try.prog 12 (sFil pCls) := sumOK_of_vc (c := cFiR) cFiR_ok mixedW Try.func12 rfl (by decide) @clsR_fun
theorem upt_ok : SumOK Try.prog 13 (sFil pUp) := sumOK_of_vc (c := cFi) cFi_ok mixedW Try.func13 rfl (by decide) @upt_fun
theorem uptR_ok : SumOK Try.prog 14 (sFil pUp) := sumOK_of_vc (c := cFiR) cFiR_ok mixedW Try.func14 rfl (by decide) @uptR_fun
theorem fro_ok : SumOK Try.prog 15 (sFil pFr) := sumOK_of_vc (c := cFi) cFi_ok mixedW Try.func15 rfl (by decide) @fro_fun
theorem froR_ok : SumOK Try.prog 16 (sFil pFr) := sumOK_of_vc (c := cFiR) cFiR_ok mixedW Try.func16 rfl (by decide) @froR_fun
theorem cPr_ok : CtxOK Try.prog cPr := CtxOK.of tabWOK refsWOK (.cons chk_ok .nil) (.cons Try.func37 rfl (by decide) .nil) mpsWOK
theorem pre_ok : SumOK Try.prog 17 sPre := sumOK_of_vc (c := cPr) cPr_ok mixedW Try.func17 rfl (by decide) @pre_fun
theorem preR_ok : SumOK Try.prog 18 sPre := sumOK_of_vc (c := cFiR) cFiR_ok mixedW Try.func18 rfl (by decide) @preR_fun
theorem find_ok : SumOK Try.prog 21 sFind := sumOK_of_vc (c := cPr) cPr_ok mixedW Try.func21 rfl (by decide) @find_fun
theorem findR_ok : SumOK Try.prog 22 sFind := sumOK_of_vc (c := cFiR) cFiR_ok mixedW Try.func22 rfl (by decide) @findR_fun
theorem labR_ok : SumOK Try.prog 20 sLab := sumOK_of_vc (c := cFiR) cFiR_ok mixedW Try.func20 rfl (by decide) @labR_fun
theorem cLa_ok : CtxOK Try.prog cLa := (CtxOK.of (c := ⟨tabW, refsW, [(6, sChk)], fnsL, keep, (35 + 2000000, .flag false) :: mpsW⟩) tabWOK refsWOK (.cons chk_ok .nil) (.cons Try.func39 rfl (by decide) .nil) (by kernel_rfl)).withM sortZ_ok
theorem lab_ok : SumOK Try.prog 19 sLab := sumOK_of_vc (c := cLa) cLa_ok mixedW Try.func19 rfl (by decide) @lab_fun
theorem stored_ok : SumOK Try.prog 26 sStored := sumOK_of_vc (c := c0W) c0W_ok mixedW Try.func26 rfl (by decide) @stored_fun
theorem cSh_ok : CtxOK Try.prog cSh := CtxOK.of tabWOK refsWOK (.cons stored_ok .nil) FunsOK.nil mpsWOK
theorem shown_ok : OutOK Try.prog 23 sShown := outOK_of_vc (c := cSh) cSh_ok mixedW Try.func23 rfl (by decide) @shown_fun
theorem clone_ok : OutOK Try.prog 37 sClone := outOK_of_vc (c := c0W) c0W_ok mixedW Try.func37 rfl (by decide) @clone_fun
theorem cFa_ok : CtxOK Try.prog cFa := CtxOK.of tabWOK refsWOK (.cons chk_ok .nil) FunsOK.nil mpsWOK
theorem fails_ok : SumOK Try.prog 25 sFails := sumOK_of_vc (c := cFa) cFa_ok mixedW Try.func25 rfl (by decide) @fails_fun
theorem cAp_ok : CtxOK Try.prog cAp := (CtxOK.of (c := ⟨tabW, refsW, [(6, sChk), (27, sCnt)], fnsA, keep, mpsW⟩) tabWOK refsWOK (.cons chk_ok (.cons cnt_ok .nil)) (.cons Try.func40 rfl (by decide) (.cons Try.func44 rfl (by decide) .nil)) mpsWOK).withO clone_ok
theorem app_ok : SumOK Try.prog 24 sApp := sumOK_of_vc (c := cAp) cAp_ok mixedW Try.func24 rfl (by decide) @app_fun
theorem cAw_ok : CtxOK Try.prog cAw := (CtxOK.of (c := ⟨tabW, refsW, [(8, sFil pVis), (24, sApp), (25, sFails), (10, sSame), (26, sStored)], [], keep, mpsW⟩) tabWOK refsWOK (.cons vis_ok (.cons app_ok (.cons fails_ok (.cons same_ok (.cons stored_ok .nil))))) FunsOK.nil mpsWOK).withO shown_ok
theorem awake_ok : SumOK Try.prog 4 sTrue := sumOK_of_vc (c := cAw) cAw_ok mixedW Try.func4 rfl (by decide) @awake_fun
theorem cLo_ok : CtxOK Try.prog cLo := CtxOK.of tabWOK refsWOK (.cons awake_ok (.cons own_ok (.cons same_ok (.cons chk_ok (.cons chkR_ok (.cons vis_ok (.cons visR_ok (.cons cls_ok (.cons clsR_ok (.cons upt_ok (.cons uptR_ok (.cons fro_ok (.cons froR_ok (.cons pre_ok (.cons preR_ok (.cons lab_ok (.cons labR_ok (.cons find_ok (.cons findR_ok .nil))))))))))))))))))) FunsOK.nil mpsWOK
theorem looks_ok : SumOK Try.prog 3 sLooks := sumOK_of_vc (c := cLo) cLo_ok mixedW Try.func3 rfl (by decide) @looks_fun
end Go.Proofs.Ytmcgebhffdedpaa
