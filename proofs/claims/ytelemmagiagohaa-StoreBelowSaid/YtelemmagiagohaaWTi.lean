/- Stores: what the laws lean on; StoreChanges. -/
import Derived.Test.YtelemmagiagohaaWTh
namespace Go.Proofs.Ytelemmagiagohaa
open Go Go.Vm Rg
set_option linter.unusedSimpArgs false
set_option linter.unusedVariables false
set_option maxRecDepth 10000
/-! ### Copies, likeness, lightness -/
def sOwn : Sum := ⟨[storeS], fun
  | [s] => some (nG s ≤ 10)
  | _ => none, fun
  | [s] => .dat storeS s
  | _ => .und⟩
theorem own_fun : FunOK c0T 60 Try.f11 sOwn := fun s hs h => by
  replace h : nG s ≤ 10 := h
  refine ⟨?_, Bears.same ?_⟩
  · show 0 + nG s ≤ 1073741824
    omega
  · show Same storeS (D.L [D.L (rgs s), s.nth 1, s.nth 2, s.nth 3]) s
    have e : (D.L [D.L (rgs s), s.nth 1, s.nth 2, s.nth 3]).nth 0 = D.L (rgs s) := rfl
    simp only [Same, Sames, e]
    exact ⟨⟨rfl, fun j _ => Same.rfl (s := ringS)⟩, rfl, rfl, rfl, trivial⟩
def sameT (a b : D) : Bool := nG a == nG b && (a.nth 1).int == (b.nth 1).int && (a.nth 2).int == (b.nth 2).int && (a.nth 3).int == (b.nth 3).int && (List.range (nG a)).all fun i => eqD ringS (rgAt a i) (rgAt b i)
def sSameT : Sum := ⟨[storeS, storeS], fun
  | [a, _] => some (nG a ≤ 12)
  | _ => none, fun
  | [a, b] => .dat .bool (.B (sameT a b))
  | _ => .und⟩
theorem sameT_fun : FunOK c0T 60 Try.f16 sSameT := fun a ha b hb h => by
  replace h : nG a ≤ 12 := h
  refine ⟨fun h1 => Bears.bool ?_, fun h1 => ?_⟩
  all_goals replace h1 : ((nG a : Int) != (nG b : Int) || (a.nth 1).int != (b.nth 1).int || (a.nth 2).int != (b.nth 2).int || (a.nth 3).int != (b.nth 3).int) = _ := h1
  · show false = sameT a b
    symm
    rw [Bool.eq_false_iff]
    intro hs
    simp only [sameT, Bool.and_eq_true, beq_iff_eq] at hs
    obtain ⟨⟨⟨⟨e1, e2⟩, e3⟩, e4⟩, _⟩ := hs
    rw [e1, e2, e3, e4] at h1
    simp at h1
  simp only [Bool.or_eq_false_iff, bne_eq_false_iff_eq] at h1
  obtain ⟨⟨⟨e1, e2⟩, e3⟩, e4⟩ := h1
  have e1 : nG a = nG b := by omega
  have hall : sameT a b = (List.range (nG a)).all fun i => eqD ringS (rgAt a i) (rgAt b i) := by
    rw [sameT, e2, e3, e4, e1]; simp
  refine ⟨{ i : Nat // i ≤ nG a ∧ ∀ k, k < i → eqD ringS (rgAt a k) (rgAt b k) = true }, 2, fun i => ([(5, .dat i64 (.I i.1)), (3, .ptr 1 storeS [] storeS), (2, .ptr 0 storeS [] storeS)], [(1, .box storeS (.dat storeS b)), (0, .box storeS (.dat storeS a))]), fun i => nG a - i.1,
    ⟨0, by omega, fun k h => by omega⟩, ⟨[], rfl, ⟨rfl, rfl, rfl, trivial⟩, ⟨rfl, rfl, trivial⟩⟩, ?_⟩
  intro x
  obtain ⟨i, hi, h0⟩ := x
  refine ⟨fun h3 => ?_, fun h3 => Bears.bool ?_⟩
  · have hk : i < nG a := ltN h3
    have hk2 : i < nG b := by omega
    refine ⟨ix hk, ix hk2, by kernel_rfl, fun h4 => Bears.bool ?_, fun h4 => ?_⟩
    all_goals replace h4 : (!eqD ringS (rgAt a i) (rgAt b i)) = _ := h4
    · show false = sameT a b
      rw [hall, not_all_range hk (by simpa using h4)]
    · exact ⟨⟨i + 1, hk, upto h0 (by simpa using h4)⟩, ⟨[], rfl, ⟨slot (i64_1 (n := i) (by omega)), rfl, rfl, trivial⟩, ⟨rfl, rfl, trivial⟩⟩, stepLt hk⟩
  · have he : i = nG a := geN hi h3
    show true = sameT a b
    rw [hall, all_range fun k hk => h0 k (by omega)]
def sLight : Sum := ⟨[storeS], fun _ => none, fun
  | [s] => .dat .bool (.B (leB (nG s) 10))
  | _ => .und⟩
theorem light_fun : FunOK c0T 60 Try.f8 sLight := fun s hs h => Bears.rfl
def lightC (c : D) : Bool := leB (Cf.nC c) 12 && leB (Cf.nR c) 12
def sLightC : Sum := ⟨[Cf.configS], fun _ => none, fun
  | [c] => .dat .bool (.B (lightC c))
  | _ => .und⟩
theorem lightC_fun : FunOK c0T 60 Try.f9 sLightC := fun c hc h => Bears.rfl
/-! ### The example -/
def exR : Nat → D
  | 0 => D0 (.arr 6 Cf.tenS)
  | i + 1 => D.puts (.arr 6 Cf.tenS) (exR i) [.idx i, .fld 0] (.I 1)
def exL : List D := [.L [.I 0, .I 2, .I 9], .L [.I 2, .I 1, .I 9]]
def exA (i : Nat) : D := .L [.L exL, exR i, .L [], .I 2]
def sEx : Sum := ⟨[], fun _ => none, fun _ => .dat Cf.configS (exA 6)⟩
theorem ex_fun : FunOK c0T 60 Try.f40 sEx := fun _ => by
  refine ⟨{ i : Nat // i ≤ 6 }, 3, fun i => ([(2, .dat i64 (.I i.1)), (1, .ptr 2 Cf.configS [] Cf.configS), (0, .ptr 0 Cf.configS [] Cf.configS)], [(2, .box Cf.configS (.st [.slice Cf.classS, .arr 6 Cf.tenS, .slice Cf.ruleS, u64] [.own 1 Cf.classS, .dat (.arr 6 Cf.tenS) (exR i.1), .cst (Value.slice none 0 0), .dat u64 (.I 2)])), (1, .grow Cf.classS exL), (0, .box Cf.configS (.st [.slice Cf.classS, .arr 6 Cf.tenS, .slice Cf.ruleS, u64] [.cst (Value.slice none 0 0), .dat (.arr 6 Cf.tenS) (D0 (.arr 6 Cf.tenS)), .cst (Value.slice none 0 0), .dat u64 (D0 u64)]))]), fun i => 6 - i.1,
    ⟨0, by omega⟩, ⟨[], rfl, ⟨rfl, rfl, rfl, trivial⟩, ⟨rfl, rfl, rfl, trivial⟩⟩, ?_⟩
  intro x
  obtain ⟨i, hi⟩ := x
  refine ⟨fun h3 => ?_, fun h3 => ?_⟩
  · have hk : i < 6 := by have h3 : ltB (i : Int) 6 = true := h3; simp only [ltB_true] at h3; omega
    exact ⟨(show 0 ≤ (i : Int) ∧ (i : Int) < 6 by omega), ⟨i + 1, hk⟩, ⟨[], rfl, ⟨slot (i64_1 (n := i) (by omega)), rfl, rfl, trivial⟩, ⟨rfl, rfl, rfl, trivial⟩⟩, stepLt hk⟩
  · have he : i = 6 := by have h3 : ltB (i : Int) 6 = false := h3; simp only [ltB_false] at h3; omega
    subst he
    exact Bears.of_eq rfl
def evD1 (l k v : Int) : D := .L [.I l, .I k, .I v]
def sTwo : Sum := ⟨[], fun _ => none, fun _ => .dat storeS (putT (putT (newT (exA 6)) (evD1 2 0 5)) (evD1 0 1 6))⟩
def cAw : Ctx := ⟨tabT, refsT, [(40, sEx), (19, sNewT), (12, sPutT)], [], keep, mpsT⟩
theorem two_fun : FunOK cAw 60 Try.f39 sTwo := fun _ => by
  exact Bears.of_eq rfl
def sTrueT : Sum := ⟨[], fun _ => none, fun _ => .dat .bool (.B true)⟩
theorem awake_fun : FunOK cAw 60 Try.f10 sTrueT := fun _ => by
  exact Bears.bool (by kernel_rfl)
theorem own_ok : SumOK Try.prog 11 sOwn := sumOK_of_vc (c := c0T) (ctxT .nil) mixed Try.func11 rfl (by decide) @own_fun
theorem sameT_ok : SumOK Try.prog 16 sSameT := sumOK_of_vc (c := c0T) (ctxT .nil) mixed Try.func16 rfl (by decide) @sameT_fun
theorem light_ok : SumOK Try.prog 8 sLight := sumOK_of_vc (c := c0T) (ctxT .nil) mixed Try.func8 rfl (by decide) @light_fun
theorem lightC_ok : SumOK Try.prog 9 sLightC := sumOK_of_vc (c := c0T) (ctxT .nil) mixed Try.func9 rfl (by decide) @lightC_fun
theorem ex_ok : SumOK Try.prog 40 sEx := sumOK_of_vc (c := c0T) (ctxT .nil) mixed Try.func40 rfl (by decide) @ex_fun
theorem cAw_ok : CtxOK Try.prog cAw := ctxT (.cons ex_ok (.cons newT_ok' (.cons putT_ok .nil)))
theorem two_ok : SumOK Try.prog 39 sTwo := sumOK_of_vc cAw_ok mixed Try.func39 rfl (by decide) @two_fun
theorem awake_ok : SumOK Try.prog 10 sTrueT := sumOK_of_vc cAw_ok mixed Try.func10 rfl (by decide) @awake_fun
theorem sameT_rfl (s : D) : sameT s s = true := by
  simp only [sameT, beq_self_eq_true, Bool.true_and]
  exact all_range fun i _ => eqRing _
theorem putT_len (s e : D) : nG (putT s e) ≤ nG s := by
  rw [putT]
  split
  · exact Nat.zero_le _
  · show ((rgs s).set _ _).length ≤ (rgs s).length
    rw [List.length_set]; exact Nat.le_refl _
theorem tickT_len (s : D) : nG (tickT s) ≤ nG s := by
  rw [tickT]
  split
  · exact Nat.zero_le _
  · show (tickL s (nG s)).length ≤ nG s
    rw [tickL_len (Nat.le_refl _)]; exact Nat.le_refl _
theorem newT_len (c : D) : nG (newT c) ≤ 8 := by
  rw [newT]
  split
  · exact Nat.zero_le _
  · rename_i h
    show (newRgs c (Cf.nC c)).length ≤ 8
    rw [newRgs_len]; exact nw_len (by simpa using h)
def sChanges : Sum := ⟨[storeS, eventS, Cf.configS], fun _ => none, fun _ => .dat .bool (.B true)⟩
def cCh : Ctx := ⟨tabT, refsT, [(8, sLight), (9, sLightC), (10, sTrueT), (11, sOwn), (12, sPutT), (13, sPutT), (14, sChk), (15, sChk), (16, sSameT), (17, sTick), (18, sTick), (19, sNewT), (20, sNewT)], [], keep, mpsT⟩
theorem cCh_ok : CtxOK Try.prog cCh := ctxT (.cons light_ok (.cons lightC_ok (.cons awake_ok (.cons own_ok (.cons putT_ok (.cons putTR_ok (.cons checkT_ok (.cons checkRT_ok (.cons sameT_ok (.cons tickT_ok (.cons tickTR_ok (.cons newT_ok' (.cons newRT_ok .nil)))))))))))))
set_option maxHeartbeats 2000000 in
theorem changes_fun : FunOK cCh 200 Try.f3 sChanges := fun s hs e he c hc _ => by
  have hE := eqStored
  refine ⟨fun h1 => Bears.bool rfl, fun h1 => ?_⟩
  replace h1 : (!leB (nG s) 10 || !lightC c) = false := h1
  have h10 : nG s ≤ 10 := by
    simp only [Bool.or_eq_false_iff, Bool.not_eq_false', leB_true] at h1; omega
  have hP := putT_len s e
  have hT := tickT_len s
  have hN := newT_len c
  refine ⟨h10, fun h2 => (show nG (putT s e) ≤ 12 by omega), by kernel_rfl, fun h2 => absurd h2 ?_, fun h2 => ⟨(show nG (tickT s) ≤ 12 by omega), fun h3 => absurd h3 ?_, fun h3 => ⟨(show nG (newT c) ≤ 12 by omega), fun h4 => (show nG s ≤ 12 by omega), Bears.bool ?_⟩⟩⟩
  · show ¬ (stE s != stE s || !sameT (putT s e) (putT s e) || !eqD storedS (putX s e) (putX s e) || putTE s e != putTE s e) = true
    rw [sameT_rfl, hE]; simp
  · show ¬ (!sameT (tickT s) (tickT s) || tickN s != tickN s || tickE s != tickE s) = true
    rw [sameT_rfl]; simp
  · show (sameT (newT c) (newT c) && Cf.chE c == Cf.chE c && sameT s s && true) = true
    rw [sameT_rfl, sameT_rfl]; simp
theorem changes_ok : SumOK Try.prog 3 sChanges := sumOK_of_vc cCh_ok mixed Try.func3 rfl (by decide) @changes_fun
end Go.Proofs.Ytelemmagiagohaa
