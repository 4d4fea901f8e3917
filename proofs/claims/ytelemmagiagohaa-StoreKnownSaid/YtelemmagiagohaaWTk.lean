/- Stores: StoreLooks. -/
import Derived.Test.YtelemmagiagohaaWTi
namespace Go.Proofs.Ytelemmagiagohaa
open Go Go.Vm Rg
set_option linter.unusedSimpArgs false
set_option linter.unusedVariables false
set_option maxRecDepth 10000
theorem belT_len (s : D) (l : Int) : nG (belT s l) ≤ nG s := by
  rw [belT]
  split
  · exact Nat.zero_le _
  · exact List.length_filter_le _ _
def sLooksT : Sum := ⟨[storeS, u64, i64, idS], fun _ => none, fun _ => .dat .bool (.B true)⟩
def cLk : Ctx := ⟨tabT, refsT, [(8, sLight), (10, sTrueT), (30, sClass), (31, sClass), (32, sRoom), (33, sRoom), (34, sAt), (35, sAt), (27, sGetT), (36, sGetT), (26, sListT), (37, sListT), (23, sBelT), (38, sBelT), (29, Rg.sSame), (16, sSameT)], [], keep, mpsT⟩
theorem cLk_ok : CtxOK Try.prog cLk := ctxT (.cons light_ok (.cons awake_ok (.cons class_ok (.cons classR_ok (.cons room_ok (.cons roomR_ok (.cons at_ok (.cons atR_ok (.cons get_ok (.cons getRT_ok (.cons list_ok (.cons listRT_ok (.cons belT_ok' (.cons belR_ok (.cons Rg.same_ok (.cons sameT_ok .nil))))))))))))))))
set_option maxHeartbeats 2000000 in
theorem looksT_fun : FunOK cLk 200 Try.f6 sLooksT := fun s hs l hl i hi d hd _ => by
  refine ⟨fun h1 => Bears.bool rfl, fun h1 => ⟨fun h2 => absurd h2 ?_, fun h2 => ⟨fun h3 => absurd h3 ?_, fun h3 => ⟨fun h4 => ?_, Bears.bool ?_⟩⟩⟩⟩
  · show ¬ (clsN s l.int != clsN s l.int || clsE s l.int != clsE s l.int || roomN s l.int != roomN s l.int || clsE s l.int != clsE s l.int) = true
    simp
  · show ¬ (!eqD ringS (atR s i.int) (atR s i.int) || atE s i.int != atE s i.int || !eqD storedS (getT s d) (getT s d) || getTE s d != getTE s d) = true
    rw [eqRing, eqStored]; simp
  · have h10 : nG s ≤ 10 := by
      replace h1 : (!leB (nG s) 10) = false := h1
      simp only [Bool.not_eq_false', leB_true] at h1; omega
    have := belT_len s l.int
    show nG (belT s l.int) ≤ 12
    omega
  · show (sameB (D.L (listT s)) (D.L (listT s)) && stE s == stE s && sameT (belT s l.int) (belT s l.int) && stE s == stE s && true) = true
    rw [sameB_rfl, sameT_rfl]; simp
theorem looksT_ok : SumOK Try.prog 6 sLooksT := sumOK_of_vc cLk_ok mixed Try.func6 rfl (by decide) @looksT_fun
end Go.Proofs.Ytelemmagiagohaa
