/- Accounts of rules: Down of both, the reference's Which; the law RuleLists. -/
import Derived.Test.YtjjpeeppfnhiiaaWPf
namespace Go.Proofs.Ytjjpeeppfnhiiaa
open Go Go.Vm
set_option linter.unusedSimpArgs false
set_option linter.unusedVariables false
set_option maxRecDepth 10000
def downB (l : D) (x top : Int) : Bool := (flowL l x).any fun d => belowB d.int top
theorem flowL_len (l : D) (x : Int) : (flowL l x).length ≤ 9 := by
  rw [flowL]
  split
  · rename_i h
    have h1 := flow_len l.list x
    rw [listF] at h
    split at h
    · cases h
    · rw [nums_len]; omega
  · simp
theorem down_at {l : D} {x t : Int} {i : Nat} (hi : i < (flowL l x).length) (h : belowB ((flowL l x).getD i .Z).int t = true) : downB l x t = true := by
  rw [downB, List.any_eq_true]
  refine ⟨(flowL l x)[i], List.getElem_mem hi, ?_⟩
  rwa [List.getD_eq_getElem?_getD, List.getElem?_eq_getElem hi] at h
theorem down_no {l : D} {x t : Int} (h : ∀ k, k < (flowL l x).length → belowB ((flowL l x).getD k .Z).int t = false) : downB l x t = false := by
  rw [downB, List.any_eq_false]
  intro d hd
  obtain ⟨k, hk, rfl⟩ := List.getElem_of_mem hd
  have := h k hk
  rw [List.getD_eq_getElem?_getD, List.getElem?_eq_getElem hk] at this
  rw [Option.getD_some] at this
  rw [this]; simp
def sDown : Sum := ⟨[.slice ruleS, u64, u64], fun _ => none, fun
  | [l, x, t] => .tup [.dat .bool (.B (downB l x.int t.int)), .dat i64 (.I (listF l))]
  | _ => .und⟩
noncomputable def cDown : Ctx := ⟨tabK, [], [(23, sFlows), (40, sBelow)], [(49, Try.f49), (56, Try.f56), (50, Try.f50)], keep, []⟩
theorem down_fun : FunOK cDown 60 Try.f26 sDown := fun l hl x hx t ht _ => by
  refine ⟨fun h1 => ⟨Bears.bool ?_, Bears.int rfl, trivial⟩, fun h1 => ?_⟩
  · replace h1 : (listF l != 0) = true := h1
    show false = downB l x.int t.int
    rw [downB, flowL, if_neg (by simpa using h1)]; rfl
  replace h1 : (listF l != 0) = false := h1
  have hl0 : listF l = 0 := by simpa using h1
  have hlen : (flowL l x.int).length ≤ 9 := flowL_len _ _
  refine ⟨{ i : Nat // i ≤ (flowL l x.int).length ∧ ∀ k, k < i → belowB ((flowL l x.int).getD k .Z).int t.int = false }, 1, fun i => ([(8, .dat i64 (.I i.1)), (7, .dat i64 (.I (flowL l x.int).length)), (0, .dat (.slice u64) (.L (flowL l x.int))), (1, .fn 50 [.ptr 0 u64 [] u64])],
    [(0, .box u64 (.dat u64 (.I t.int)))]), fun i => (flowL l x.int).length - i.1,
    ⟨0, by omega, fun k h => by omega⟩, ⟨[], rfl, ⟨rfl, rfl, rfl, rfl, trivial⟩, ⟨rfl, trivial⟩⟩, ?_⟩
  intro y
  obtain ⟨i, hi, h0⟩ := y
  have hlt : ltB (i : Int) ((flowL l x.int).length : Int) = true → i < (flowL l x.int).length := ltN
  have hge : ltB (i : Int) ((flowL l x.int).length : Int) = false → i = (flowL l x.int).length := geN hi
  refine ⟨fun h1 => ⟨ix (hlt h1), fun h2 => ⟨Bears.bool ?_, Bears.int hl0.symm, trivial⟩, fun h2 => ?_⟩, fun h1 => ⟨Bears.bool ?_, Bears.int hl0.symm, trivial⟩⟩
  · have hk := hlt h1
    replace h2 : belowB ((flowL l x.int).getD i .Z).int t.int = true := h2
    have e : downB l x.int t.int = true := down_at hk h2
    show leB 0 (i : Int) = downB l x.int t.int
    rw [e]; simp only [leB_true]; omega
  · have hk := hlt h1
    exact ⟨⟨i + 1, hk, upto h0 h2⟩, ⟨[], rfl, ⟨slot (i64_1 (n := i) (by omega)), rfl, rfl, rfl, trivial⟩, ⟨rfl, trivial⟩⟩, Nat.sub_lt_sub_left hk (Nat.lt_succ_self i)⟩
  · have e := hge h1
    have e : downB l x.int t.int = false := down_no fun k hk => h0 k (by omega)
    show leB 0 (-1) = downB l x.int t.int
    rw [e]; rfl
def cDownR : Ctx := ⟨tabK, [], [(32, sFlows), (41, sBelow)], [], keep, []⟩
theorem downR_fun : FunOK cDownR 60 Try.f33 sDown := fun l hl x hx t ht _ => by
  have hlen : (flowL l x.int).length ≤ 9 := flowL_len _ _
  refine ⟨{ i : Nat // i ≤ (flowL l x.int).length ∧ ∀ k, k < i → belowB ((flowL l x.int).getD k .Z).int t.int = false }, 0, fun i => ([(10, .dat i64 (.I i.1)), (9, .dat i64 (.I (listF l))), (8, .dat (.slice u64) (.L (flowL l x.int))), (2, .dat u64 (.I t.int))],
    []), fun i => (flowL l x.int).length - i.1,
    ⟨0, by omega, fun k h => by omega⟩, ⟨[], rfl, ⟨rfl, rfl, rfl, rfl, trivial⟩, trivial⟩, ?_⟩
  intro y
  obtain ⟨i, hi, h0⟩ := y
  have hlt : ltB (i : Int) ((flowL l x.int).length : Int) = true → i < (flowL l x.int).length := ltN
  have hge : ltB (i : Int) ((flowL l x.int).length : Int) = false → i = (flowL l x.int).length := geN hi
  refine ⟨fun h1 => ⟨ix (hlt h1), fun h2 => ⟨Bears.bool (down_at (hlt h1) h2).symm, Bears.int rfl, trivial⟩, fun h2 => ?_⟩, fun h1 => ⟨Bears.bool ?_, Bears.int rfl, trivial⟩⟩
  · have hk := hlt h1
    exact ⟨⟨i + 1, hk, upto h0 h2⟩, ⟨[], rfl, ⟨slot (i64_1 (n := i) (by omega)), rfl, rfl, rfl, trivial⟩, trivial⟩, Nat.sub_lt_sub_left hk (Nat.lt_succ_self i)⟩
  · have e := hge h1
    exact (down_no fun k hk => h0 k (by omega)).symm
def cWhR : Ctx := ⟨tabK, [], [(29, sList), (51, sEvent), (30, sMay), (41, sBelow), (39, sfits)], [], keep, []⟩
theorem whichR_fun : FunOK cWhR 60 Try.f27 sWhich := fun l hl t ht c hc e he _ => by
  refine ⟨fun h1 => ⟨fun h2 => ⟨Bears.same (eqSame ?_), Bears.int ?_, trivial⟩, fun h2 => ?_⟩, fun h1 => ⟨fun h2 => ⟨Bears.same (eqSame ?_), Bears.int ?_, trivial⟩, fun h2 => ?_⟩⟩
  all_goals replace h1 : (listF l == 0) = _ := h1
  all_goals first | replace h2 : (eventF e != 0) = _ := h2 | replace h2 : (listF l != 0) = _ := h2
  all_goals simp only [bne_iff_ne, ne_eq, bne_eq_false_iff_eq, beq_iff_eq, beq_eq_false_iff_ne] at h1 h2
  · have hE : whE l e = eventF e := by rw [whE, if_neg (by simp [h1])]
    show D.L [] = D.L (whL l t.int c.int e)
    rw [whL, if_pos (by rw [hE]; exact h2)]
  · show eventF e = whE l e
    rw [whE, if_neg (by simp [h1])]
  · have hE : whE l e = 0 := by rw [whE, if_neg (by simp [h1])]; exact h2
    have h8 : l.list.length ≤ 8 := by
      rw [listF] at h1
      split at h1
      · cases h1
      · omega
    have hMay : ∀ i : Nat, MayF l i t.int c.int = mayF l i t.int c.int := fun i => by rw [MayF, if_neg (by simp [h1])]
    refine ⟨{ i : Nat // i ≤ l.list.length }, 4, fun i => ([(12, .dat i64 (.I i.1)), (11, .own 3 i64), (7, .ptr 0 eventS [] eventS), (0, .dat (.slice ruleS) l), (1, .dat i64 (.I t.int)), (2, .dat u64 (.I c.int))],
      [(3, .grow i64 (pick (whP l t.int c.int e) i.1)), (0, .box eventS (.dat eventS e))]), fun i => l.list.length - i.1,
      ⟨0, by omega⟩, ⟨[(3, 2)], rfl, ⟨rfl, rfl, rfl, rfl, rfl, rfl, trivial⟩, ⟨rfl, rfl, trivial⟩⟩, ?_⟩
    intro y
    obtain ⟨i, hi⟩ := y
    have hlt : ltB (i : Int) (l.list.length : Int) = true → i < l.list.length := ltN
    have hge : ltB (i : Int) (l.list.length : Int) = false → i = l.list.length := geN hi
    refine ⟨fun h1 => ⟨fun h2 => ⟨(ix (hlt h1)).1, (ix (hlt h1)).2⟩, fun h2 => ⟨(ix (hlt h1)).1, (ix (hlt h1)).2⟩, by kernel_rfl, fun h2 => ⟨?_, ?_⟩, fun h2 => ?_⟩, fun h1 => ⟨Bears.same ?_, Bears.int hE.symm, trivial⟩⟩
    · have := hlt h1; have := pick_len (whP l t.int c.int e) i
      show (pick (whP l t.int c.int e) i).length + 1 ≤ 1073741824; omega
    · have hk := hlt h1
      replace h2 : (MayF l i t.int c.int == 0 && belowB (e.nth 0).int ((l.list.getD i .Z).nth 1).int && fitsB (l.list.getD i .Z) e) = true := h2
      rw [hMay] at h2
      have h3 : whP l t.int c.int e i = true := h2
      refine ⟨⟨i + 1, hk⟩, ⟨[(3, 53)], rfl, ⟨slot (i64_1 (n := i) (by omega)), rfl, rfl, rfl, rfl, rfl, trivial⟩, ⟨gro ?_, rfl, trivial⟩⟩, Nat.sub_lt_sub_left hk (Nat.lt_succ_self i)⟩
      show pick (whP l t.int c.int e) i ++ [D.I i] = pick (whP l t.int c.int e) (i + 1)
      rw [pick_succ, if_pos h3]
    · have hk := hlt h1
      replace h2 : (MayF l i t.int c.int == 0 && belowB (e.nth 0).int ((l.list.getD i .Z).nth 1).int && fitsB (l.list.getD i .Z) e) = false := h2
      rw [hMay] at h2
      have h3 : whP l t.int c.int e i = false := h2
      refine ⟨⟨i + 1, hk⟩, ⟨[], rfl, ⟨slot (i64_1 (n := i) (by omega)), rfl, rfl, rfl, rfl, rfl, trivial⟩, ⟨gro ?_, rfl, trivial⟩⟩, Nat.sub_lt_sub_left hk (Nat.lt_succ_self i)⟩
      show pick (whP l t.int c.int e) i = pick (whP l t.int c.int e) (i + 1)
      rw [pick_succ, if_neg (by simp [h3]), List.append_nil]
    · have e' := hge h1
      refine eqSame ?_
      show D.L (pick (whP l t.int c.int e) i) = D.L (whL l t.int c.int e)
      rw [whL, if_neg (by simp [hE]), e']
  · show D.L [] = D.L (whL l t.int c.int e)
    rw [whL, if_pos (by rw [whE, if_pos h1]; exact h1)]
  · show listF l = whE l e
    rw [whE, if_pos h1]
  · exact absurd h2 h1
theorem MayR_fun : FunOK ⟨tabK, [], [(29, sList), (41, sBelow)], [], keep, []⟩ 40 Try.f30 sMay := fun l hl n hn t ht c hc _ => by
  refine ⟨fun h1 => Bears.int ?_, fun h1 => ⟨fun hk => ⟨?_, ?_⟩, fun h2 => Bears.int ?_, fun h2 => ⟨?_, fun h3 => Bears.int ?_, fun h3 => Bears.int ?_⟩⟩⟩
  all_goals simp at h1
  · simp [MayF, h1]
  · have hk : (ltB n.int 0 || leB (l.list.length : Int) n.int) = false := hk
    simp only [Bool.or_eq_false_iff, ltB_false, leB_false] at hk
    exact hk.1
  · have hk : (ltB n.int 0 || leB (l.list.length : Int) n.int) = false := hk
    simp only [Bool.or_eq_false_iff, ltB_false, leB_false] at hk
    exact hk.2
  · show 20 = MayF l n.int t.int c.int
    rw [MayF, if_neg (by simp [h1]), mayF, if_pos]
    replace h2 : (ltB n.int 0 || leB (l.list.length : Int) n.int || ((l.list.getD n.int.toNat .Z).nth 0).int != t.int) = true := h2
    simpa [or_assoc] using h2
  all_goals replace h2 : (ltB n.int 0 || leB (l.list.length : Int) n.int || ((l.list.getD n.int.toNat .Z).nth 0).int != t.int) = false := h2
  all_goals simp only [Bool.or_eq_false_iff, ltB_false, leB_false, bne_eq_false_iff_eq, List.getD_eq_getElem?_getD] at h2
  · exact ⟨h2.1.1, h2.1.2⟩
  all_goals replace h3 : (!belowB ((l.list.getD n.int.toNat .Z).nth 1).int c.int) = _ := h3
  all_goals rw [List.getD_eq_getElem?_getD] at h3
  · show 13 = MayF l n.int t.int c.int
    rw [MayF, if_neg (by simp [h1]), mayF, if_neg (by simp only [ne_eq, not_or, Decidable.not_not]; omega), if_pos (by simpa using h3)]
  · show 0 = MayF l n.int t.int c.int
    rw [MayF, if_neg (by simp [h1]), mayF, if_neg (by simp only [ne_eq, not_or, Decidable.not_not]; omega), if_neg (by simpa using h3)]
def sLists : Sum := ⟨[.slice ruleS, i64, i64, u64, eventS], fun _ => none, fun _ => .dat .bool (.B true)⟩
def cLists : Ctx := ⟨tabK, [], [(20, sWhich), (27, sWhich), (28, sList), (29, sList), (21, sMay), (30, sMay),
  (31, sSameI i64), (23, sFlows), (32, sFlows), (26, sDown), (33, sDown), (24, sSameI u64), (16, sTrue)], [], keep, []⟩
theorem lists_fun : FunOK cLists 60 Try.f6 sLists := fun l hl n hn t ht c hc e he _ => by
  refine ⟨fun h1 => Bears.bool rfl, fun h1 => ⟨fun h2 => Bears.bool ?_, fun h2 => Bears.bool ?_⟩⟩
  · replace h2 : (listF l != listF l || MayF l n.int t.int c.int != MayF l n.int t.int c.int || !sameI (whL l t.int c.int e) (whL l t.int c.int e) || whE l e != whE l e) = true := h2
    rw [sameI_rfl] at h2
    simp at h2
  · show (sameI (flowL l (e.nth 0).int) (flowL l (e.nth 0).int) && listF l == listF l && downB l (e.nth 0).int c.int == downB l (e.nth 0).int c.int && listF l == listF l && true) = true
    rw [sameI_rfl]
    simp
theorem mpsOK : mapsB Try.prog mpsF = true := by kernel_rfl
theorem flows_ok : SumOK Try.prog 23 sFlows := sumOK_of_vc (c := cFl) ((CtxOK.of (c := ⟨tabK, [], [(28, sList), (40, sBelow)], [], keep, mpsF⟩) tabKOK rfl (.cons List_ok (.cons below_ok .nil)) .nil mpsOK).withM sort_ok) mixed Try.func23 rfl (by decide) @flows_fun
theorem hasU_ok : SumOK Try.prog 52 sHasU := sumOK_of_vc (c := c0K) (ctxK .nil) mixed Try.func52 rfl (by decide) @hasU_fun
theorem hasL_ok : SumOK Try.prog 25 sHasU := sumOK_of_vc (c := c0K) (ctxK .nil) mixed Try.func25 rfl (by decide) @hasL_fun
theorem sameInts_ok : SumOK Try.prog 31 (sSameI i64) := sumOK_of_vc (c := c0K) (ctxK .nil) mixed Try.func31 rfl (by decide) @sameInts_fun
theorem sameU_ok : SumOK Try.prog 24 (sSameI u64) := sumOK_of_vc (c := c0K) (ctxK .nil) mixed Try.func24 rfl (by decide) @sameU_fun
theorem ListR_ok : SumOK Try.prog 29 sList := sumOK_of_vc (c := cListR) (ctxOK (.cons checkR_ok .nil)) mixed Try.func29 rfl (by decide) @ListR_fun
theorem flowsR_ok : SumOK Try.prog 32 sFlows := sumOK_of_vc (c := cFlR) (ctxK (.cons ListR_ok (.cons belowR_ok (.cons hasU_ok .nil)))) mixed Try.func32 rfl (by decide) @flowsR_fun
theorem down_ok : SumOK Try.prog 26 sDown := sumOK_of_vc (c := cDown) (CtxOK.of tabKOK rfl (.cons flows_ok (.cons below_ok .nil)) (FunsOK.cons rfl rfl (by decide) (FunsOK.cons rfl rfl (by decide) (FunsOK.cons rfl rfl (by decide) FunsOK.nil)))) mixed Try.func26 rfl (by decide) @down_fun
theorem downR_ok : SumOK Try.prog 33 sDown := sumOK_of_vc (c := cDownR) (ctxK (.cons flowsR_ok (.cons belowR_ok .nil))) mixed Try.func33 rfl (by decide) @downR_fun
theorem MayR_ok : SumOK Try.prog 30 sMay := sumOK_of_vc (c := ⟨tabK, [], [(29, sList), (41, sBelow)], [], keep, []⟩) (ctxK (.cons ListR_ok (.cons belowR_ok .nil))) mixed Try.func30 rfl (by decide) @MayR_fun
theorem whichR_ok : SumOK Try.prog 27 sWhich := sumOK_of_vc (c := cWhR) (ctxK (.cons ListR_ok (.cons eventR_ok (.cons MayR_ok (.cons belowR_ok (.cons fitsR_ok .nil)))))) mixed Try.func27 rfl (by decide) @whichR_fun
theorem lists_ok : SumOK Try.prog 6 sLists := sumOK_of_vc (c := cLists) (ctxK (.cons which_ok (.cons whichR_ok (.cons List_ok (.cons ListR_ok (.cons May_ok (.cons MayR_ok (.cons sameInts_ok (.cons flows_ok (.cons flowsR_ok (.cons down_ok (.cons downR_ok (.cons sameU_ok (.cons awake_ok .nil)))))))))))))) mixed Try.func6 rfl (by decide) @lists_fun
end Go.Proofs.Ytjjpeeppfnhiiaa
