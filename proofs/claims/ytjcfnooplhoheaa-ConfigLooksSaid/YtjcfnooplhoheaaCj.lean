/- Accounts of quotas: what is right of them; the laws. -/
import Derived.Test.YtjcfnooplhoheaaCi
namespace Go.Proofs.Ytjcfnooplhoheaa
open Go Go.Vm
set_option linter.unusedSimpArgs false
set_option maxRecDepth 10000
theorem qCheck_ok : SumOK Try.prog 34 sQk := sumOK_of_vc (c := cK2) k2OK mixed Try.func34 rfl (by decide) @qCheck_fun
theorem qCheckR_ok : SumOK Try.prog 35 sQk := sumOK_of_vc (c := cQ1) (ctxOK (.cons check_ok (.cons checkR_ok .nil))) mixed Try.func35 rfl (by decide) @qCheckR_fun
theorem qClass_ok : SumOK Try.prog 31 sQClass := sumOK_of_vc (c := cK2) k2OK mixed Try.func31 rfl (by decide) @qClass_fun
theorem qclass_ok : SumOK Try.prog 76 sClI := sumOK_of_vc (c := c0) (ctxOK .nil) mixed Try.func76 rfl (by decide) @qclass_fun
theorem qClassR_ok : SumOK Try.prog 32 sQClass := sumOK_of_vc (c := cQ2) (ctxOK (.cons checkR_ok (.cons qclass_ok .nil))) mixed Try.func32 rfl (by decide) @qClassR_fun
theorem qNew_ok : SumOK Try.prog 27 sQNew := sumOK_of_vc (c := cQ1) (ctxOK (.cons check_ok (.cons checkR_ok .nil))) mixed Try.func27 rfl (by decide) @qNew_fun
theorem qNewR_ok : SumOK Try.prog 28 sQNew := sumOK_of_vc (c := cQ1) (ctxOK (.cons check_ok (.cons checkR_ok .nil))) mixed Try.func28 rfl (by decide) @qNewR_fun
theorem both_ok : SumOK Try.prog 74 sBoth := sumOK_of_vc (c := cQ3) (ctxOK (.cons qCheck_ok (.cons qClass_ok (.cons qCheckR_ok (.cons qclass_ok .nil))))) mixed Try.func74 rfl (by decide) @both_fun
theorem left_ok : SumOK Try.prog 39 sLeft := sumOK_of_vc (c := cQ4) (ctxOK (.cons both_ok .nil)) mixed Try.func39 rfl (by decide) @left_fun
theorem leftR_ok : SumOK Try.prog 40 sLeft := sumOK_of_vc (c := cQ3) (ctxOK (.cons qCheck_ok (.cons qClass_ok (.cons qCheckR_ok (.cons qclass_ok .nil))))) mixed Try.func40 rfl (by decide) @leftR_fun
def cM : Ctx := ⟨tab, refs, [(39, sLeft), (40, sLeft)], [], keep, mps⟩
theorem may_fun2 : FunOK cM 60 Try.f37 sMay := fun _ _ _ _ _ _ _ => ⟨Bears.bool rfl, Bears.int rfl, trivial⟩
theorem mayR_fun2 : FunOK cM 60 Try.f38 sMay := fun _ _ _ _ _ _ _ => ⟨Bears.bool rfl, Bears.int rfl, trivial⟩
theorem may_ok : SumOK Try.prog 37 sMay := sumOK_of_vc (c := cM) (ctxOK (.cons left_ok (.cons leftR_ok .nil))) mixed Try.func37 rfl (by decide) @may_fun2
theorem mayR_ok : SumOK Try.prog 38 sMay := sumOK_of_vc (c := cM) (ctxOK (.cons left_ok (.cons leftR_ok .nil))) mixed Try.func38 rfl (by decide) @mayR_fun2
theorem sum_ok : SumOK Try.prog 77 sSum := sumOK_of_vc (c := c0) (ctxOK .nil) mixed Try.func77 rfl (by decide) @sum_fun
theorem tot_ok : SumOK Try.prog 41 sTot := sumOK_of_vc (c := cQ6) (ctxOK (.cons qCheck_ok (.cons qCheckR_ok (.cons sum_ok .nil)))) mixed Try.func41 rfl (by decide) @tot_fun
theorem totR_ok : SumOK Try.prog 42 sTot := sumOK_of_vc (c := cQ6) (ctxOK (.cons qCheck_ok (.cons qCheckR_ok (.cons sum_ok .nil)))) mixed Try.func42 rfl (by decide) @totR_fun
theorem tab2OK : tabB Try.prog tab2 = true := by kernel_rfl
theorem uOK : CtxOK Try.prog cU := CtxOK.of tab2OK refsOK .nil FunsOK.nil mpsOK
theorem in_ok : SumOK Try.prog 88 sIn := sumOK_of_vc (c := cU) uOK mixed Try.func88 rfl (by decide) @in_fun
theorem below01_ok : SumOK Try.prog 78 sBelow := sumOK_of_vc (c := cQ8) (ctxOK (.cons in_ok .nil)) mixed Try.func78 rfl (by decide) @below01_fun
theorem seen_ok : SumOK Try.prog 43 sSeen := sumOK_of_vc (c := cQ7) (ctxOK (.cons qCheck_ok (.cons qCheckR_ok (.cons below01_ok .nil)))) mixed Try.func43 rfl (by decide) @seen_fun
theorem seenR_ok : SumOK Try.prog 44 sSeen := sumOK_of_vc (c := cQ7) (ctxOK (.cons qCheck_ok (.cons qCheckR_ok (.cons below01_ok .nil)))) mixed Try.func44 rfl (by decide) @seenR_fun
theorem ownInts_ok : SumOK Try.prog 73 cloneS := sumOK_of_vc (c := c0) (ctxOK .nil) mixed Try.func73 rfl (by decide) @ownInts_fun
theorem q9OK : CtxOK Try.prog cQ9 := CtxOK.of tabOK refsOK (.cons both_ok (.cons leftR_ok (.cons qclass_ok .nil))) (.cons Try.func75 rfl (by decide) .nil) mpsOK
theorem use_ok : SumOK Try.prog 29 sUse := sumOK_of_vc (c := cQ9) q9OK mixed Try.func29 rfl (by decide) @use_fun
theorem useR_ok : SumOK Try.prog 30 sUse := sumOK_of_vc (c := cQ9) q9OK mixed Try.func30 rfl (by decide) @useR_fun
theorem light25_ok : SumOK Try.prog 23 sLight25 := sumOK_of_vc (c := cL) (ctxOK (.cons lightK_ok (.cons ownInts_ok (.cons sameInts_ok .nil)))) mixed Try.func23 rfl (by decide) @light25_fun
theorem ownC_ok : SumOK Try.prog 25 sOwnC := sumOK_of_vc (c := c0) (ctxOK .nil) mixed Try.func25 rfl (by decide) @ownC_fun
theorem ownR_ok : SumOK Try.prog 26 sOwnR := sumOK_of_vc (c := cL) (ctxOK (.cons lightK_ok (.cons ownInts_ok (.cons sameInts_ok .nil)))) mixed Try.func26 rfl (by decide) @ownR_fun
theorem same25_ok : SumOK Try.prog 33 sSame25 := sumOK_of_vc (c := cL) (ctxOK (.cons lightK_ok (.cons ownInts_ok (.cons sameInts_ok .nil)))) mixed Try.func33 rfl (by decide) @same25_fun
theorem sameK_ok : SumOK Try.prog 36 sSameC := sumOK_of_vc (c := c0) (ctxOK .nil) mixed Try.func36 rfl (by decide) @sameK_fun
theorem shownQ_ok : SumOK Try.prog 45 sShownQ := sumOK_of_vc (c := c0) (ctxOK .nil) mixed Try.func45 rfl (by decide) @shownQ_fun
theorem rates_ok : SumOK Try.prog 46 sRates := sumOK_of_vc (c := c0) (ctxOK .nil) mixed Try.func46 rfl (by decide) @rates_fun
theorem used_ok : SumOK Try.prog 47 sUsed := sumOK_of_vc (c := cUs) (ctxOK (.cons shownQ_ok (.cons use_ok .nil))) mixed Try.func47 rfl (by decide) @used_fun
theorem awakeQ_ok : SumOK Try.prog 24 sTrue := sumOK_of_vc (c := cAwQ) (ctxOK (.cons shownQ_ok (.cons use_ok (.cons qNew_ok (.cons qClass_ok (.cons sameInts_ok (.cons rates_ok (.cons used_ok .nil)))))))) mixed Try.func24 rfl (by decide) @awakeQ_fun
theorem usesLaw_ok : SumOK Try.prog 4 sLawU := sumOK_of_vc (c := cQUses) (ctxOK (.cons light25_ok (.cons awakeQ_ok (.cons ownC_ok (.cons ownR_ok (.cons qNew_ok (.cons qNewR_ok (.cons use_ok (.cons useR_ok (.cons qClass_ok (.cons qClassR_ok (.cons same25_ok (.cons qCheck_ok (.cons qCheckR_ok (.cons sameK_ok .nil))))))))))))))) mixed Try.func4 rfl (by decide) @usesLaw_fun
def cQLooks : Ctx := ⟨tab, refs, [(23, sLight25), (24, sTrue), (25, sOwnC), (26, sOwnR), (37, sMay), (38, sMay), (39, sLeft), (40, sLeft), (41, sTot), (42, sTot), (43, sSeen), (44, sSeen), (20, sSameI), (33, sSame25), (36, sSameC)], [], keep, mps⟩
def sLawL : Sum := ⟨[configS, ratesS, u64, u64], fun _ => none, fun _ => .dat .bool (.B true)⟩
theorem looksLaw_fun : FunOK cQLooks 100 Try.f5 sLawL := fun c hc r hr l hl m hm _ => by
  refine ⟨fun h1 => Bears.bool rfl, fun h1 => ⟨?_, ?_, by kernel_rfl, fun h2 => ?_, fun h2 => Bears.bool ?_⟩⟩
  all_goals replace h1 : (!(leB (nC c) 12 && leB (nR c) 12 && leB (nU r) 20)) = false := h1
  all_goals simp only [Bool.not_eq_false', Bool.and_eq_true, leB_true] at h1
  · show nC c ≤ 1000 ∧ nR c ≤ 1000
    omega
  · show nU r ≤ 1000
    omega
  · replace h2 : (!(ltB 0 (leftN c r l.int) == ltB 0 (leftN c r l.int)) || bothX c r l.int != bothX c r l.int || leftN c r l.int != leftN c r l.int || bothX c r l.int != bothX c r l.int) = true := h2
    simp at h2
  · show (totN c r == totN c r && qk c r == qk c r && sameI (if qk c r ≠ 0 then [] else seenU c r m.int (nU r)) (if qk c r ≠ 0 then [] else seenU c r m.int (nU r)) && qk c r == qk c r && sameC c c && sameI (rl r) (rl r) && true) = true
    simp only [beq_self_eq_true, sameI_rfl, sameC_rfl, Bool.and_self]
theorem looksLaw_ok : SumOK Try.prog 5 sLawL := sumOK_of_vc (c := cQLooks) (ctxOK (.cons light25_ok (.cons awakeQ_ok (.cons ownC_ok (.cons ownR_ok (.cons may_ok (.cons mayR_ok (.cons left_ok (.cons leftR_ok (.cons tot_ok (.cons totR_ok (.cons seen_ok (.cons seenR_ok (.cons sameInts_ok (.cons same25_ok (.cons sameK_ok .nil)))))))))))))))) mixed Try.func5 rfl (by decide) @looksLaw_fun
end Go.Proofs.Ytjcfnooplhoheaa
