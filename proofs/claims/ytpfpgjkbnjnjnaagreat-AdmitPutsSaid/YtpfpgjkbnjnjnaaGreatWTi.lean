/- Stores: what the laws lean on; StoreChanges. -/
import Derived.Test.YtpfpgjkbnjnjnaaGreatWTg
namespace Go.Proofs.YtpfpgjkbnjnjnaaGreat
open Go Go.Vm Rg
set_option linter.unusedSimpArgs false
set_option linter.unusedVariables false
set_option maxRecDepth 10000
/-! ### Copies, likeness, lightness -/
def sOwn : Sum := ⟨[storeS], fun
  | [s] => some (nG s ≤ 10)
  | _ => none, fun
  | [s] => .dat storeS s
  | _ => .und⟩
theorem own_fun : FunOK c0T 60 Tryz.f35 sOwn := fun s hs h => by
  replace h : nG s ≤ 10 := h
  refine ⟨?_, Bears.same ?_⟩
  · show 0 + nG s ≤ 1073741824
    omega
  · show Same storeS (D.L [D.L (rgs s), s.nth 1, s.nth 2, s.nth 3]) s
    have e : (D.L [D.L (rgs s), s.nth 1, s.nth 2, s.nth 3]).nth 0 = D.L (rgs s) := rfl
    simp only [Same, Sames, e]
    exact ⟨⟨rfl, fun j _ => Same.rfl (s := ringS)⟩, rfl, rfl, rfl, trivial⟩
def sameT (a b : D) : Bool := nG a == nG b && (a.nth 1).int == (b.nth 1).int && (a.nth 2).int == (b.nth 2).int && (a.nth 3).int == (b.nth 3).int && (List.range (nG a)).all fun i => eqD ringS (rgAt a i) (rgAt b i)
def sSameT : Sum := ⟨[storeS, storeS], fun
  | [a, _] => some (nG a ≤ 12)
  | _ => none, fun
  | [a, b] => .dat .bool (.B (sameT a b))
  | _ => .und⟩
theorem sameT_fun : FunOK c0T 60 Tryz.f42 sSameT := fun a ha b hb h => by
  replace h : nG a ≤ 12 := h
  refine ⟨fun h1 => Bears.bool ?_, fun h1 => ?_⟩
  all_goals replace h1 : ((nG a : Int) != (nG b : Int) || (a.nth 1).int != (b.nth 1).int || (a.nth 2).int != (b.nth 2).int || (a.nth 3).int != (b.nth 3).int) = _ := h1
  · show false = sameT a b
    symm
    rw [Bool.eq_false_iff]
    intro hs
    simp only [sameT, Bool.and_eq_true, beq_iff_eq] at hs
    obtain ⟨⟨⟨⟨e1, e2⟩, e3⟩, e4⟩, _⟩ := hs
    rw [e1, e2, e3, e4] at h1
    simp at h1
  simp only [Bool.or_eq_false_iff, bne_eq_false_iff_eq] at h1
  obtain ⟨⟨⟨e1, e2⟩, e3⟩, e4⟩ := h1
  have e1 : nG a = nG b := by omega
  have hall : sameT a b = (List.range (nG a)).all fun i => eqD ringS (rgAt a i) (rgAt b i) := by
    rw [sameT, e2, e3, e4, e1]; simp
  refine ⟨{ i : Nat // i ≤ nG a ∧ ∀ k, k < i → eqD ringS (rgAt a k) (rgAt b k) = true }, 2, fun i => ([(5, .dat i64 (.I i.1)), (3, .ptr 1 storeS [] storeS), (2, .ptr 0 storeS [] storeS)], [(1, .box storeS (.dat storeS b)), (0, .box storeS (.dat storeS a))]), fun i => nG a - i.1,
    ⟨0, by omega, fun k h => by omega⟩, ⟨[], rfl, ⟨rfl, rfl, rfl, trivial⟩, ⟨rfl, rfl, trivial⟩⟩, ?_⟩
  intro x
  obtain ⟨i, hi, h0⟩ := x
  refine ⟨fun h3 => ?_, fun h3 => Bears.bool ?_⟩
  · have hk : i < nG a := ltN h3
    have hk2 : i < nG b := by omega
    refine ⟨ix hk, ix hk2, by kernel_rfl, fun h4 => Bears.bool ?_, fun h4 => ?_⟩
    all_goals replace h4 : (!eqD ringS (rgAt a i) (rgAt b i)) = _ := h4
    · show false = sameT a b
      rw [hall, not_all_range hk (by simpa using h4)]
    · exact ⟨⟨i + 1, hk, upto h0 (by simpa using h4)⟩, ⟨[], rfl, ⟨slot (i64_1 (n := i) (by omega)), rfl, rfl, trivial⟩, ⟨rfl, rfl, trivial⟩⟩, stepLt hk⟩
  · have he : i = nG a := geN hi h3
    show true = sameT a b
    rw [hall, all_range fun k hk => h0 k (by omega)]
def sLight : Sum := ⟨[storeS], fun _ => none, fun
  | [s] => .dat .bool (.B (leB (nG s) 10))
  | _ => .und⟩
def lightC (c : D) : Bool := leB (Cf.nC c) 12 && leB (Cf.nR c) 12
def sLightC : Sum := ⟨[Cf.configS], fun _ => none, fun
  | [c] => .dat .bool (.B (lightC c))
  | _ => .und⟩
theorem lightC_fun : FunOK c0T 60 Tryz.f31 sLightC := fun c hc h => Bears.rfl
/-! ### The example -/
def exR : Nat → D
  | 0 => D0 (.arr 6 Cf.tenS)
  | i + 1 => D.puts (.arr 6 Cf.tenS) (exR i) [.idx i, .fld 0] (.I 1)
def exL : List D := [.L [.I 0, .I 2, .I 9], .L [.I 2, .I 1, .I 9]]
def exA (i : Nat) : D := .L [.L exL, exR i, .L [], .I 2]
def sEx : Sum := ⟨[], fun _ => none, fun _ => .dat Cf.configS (exA 6)⟩
def evD1 (l k v : Int) : D := .L [.I l, .I k, .I v]
def sTwo : Sum := ⟨[], fun _ => none, fun _ => .dat storeS (putT (putT (newT (exA 6)) (evD1 2 0 5)) (evD1 0 1 6))⟩
def cAw : Ctx := ⟨tabT, refsT, [(48, sNewT), (70, sPutT)], [], keep, mpsT⟩
def sTrueT : Sum := ⟨[], fun _ => none, fun _ => .dat .bool (.B true)⟩
theorem own_ok : SumOK Tryz.prog 35 sOwn := sumOK_of_vc (c := c0T) (ctxT .nil) mixed Tryz.func35 rfl (by decide) @own_fun
theorem sameT_ok : SumOK Tryz.prog 42 sSameT := sumOK_of_vc (c := c0T) (ctxT .nil) mixed Tryz.func42 rfl (by decide) @sameT_fun
theorem lightC_ok : SumOK Tryz.prog 31 sLightC := sumOK_of_vc (c := c0T) (ctxT .nil) mixed Tryz.func31 rfl (by decide) @lightC_fun
theorem cAw_ok : CtxOK Tryz.prog cAw := ctxT (.cons newT_ok' (.cons putT_ok .nil))
theorem sameT_rfl (s : D) : sameT s s = true := by
  simp only [sameT, beq_self_eq_true, Bool.true_and]
  exact all_range fun i _ => eqRing _
theorem putT_len (s e : D) : nG (putT s e) ≤ nG s := by
  rw [putT]
  split
  · exact Nat.zero_le _
  · show ((rgs s).set _ _).length ≤ (rgs s).length
    rw [List.length_set]; exact Nat.le_refl _
theorem tickT_len (s : D) : nG (tickT s) ≤ nG s := by
  rw [tickT]
  split
  · exact Nat.zero_le _
  · show (tickL s (nG s)).length ≤ nG s
    rw [tickL_len (Nat.le_refl _)]; exact Nat.le_refl _
theorem newT_len (c : D) : nG (newT c) ≤ 8 := by
  rw [newT]
  split
  · exact Nat.zero_le _
  · rename_i h
    show (newRgs c (Cf.nC c)).length ≤ 8
    rw [newRgs_len]; exact nw_len (by simpa using h)
def sChanges : Sum := ⟨[storeS, eventS, Cf.configS], fun _ => none, fun _ => .dat .bool (.B true)⟩
def cCh : Ctx := ⟨tabT, refsT, [(31, sLightC), (35, sOwn), (70, sPutT), (72, sPutT), (54, sChk), (56, sChk), (42, sSameT), (60, sTick), (61, sTick), (48, sNewT), (51, sNewT)], [], keep, mpsT⟩
theorem cCh_ok : CtxOK Tryz.prog cCh := ctxT (.cons lightC_ok (.cons own_ok (.cons putT_ok (.cons putTR_ok (.cons checkT_ok (.cons checkRT_ok (.cons sameT_ok (.cons tickT_ok (.cons tickTR_ok (.cons newT_ok' (.cons newRT_ok .nil)))))))))))
end Go.Proofs.YtpfpgjkbnjnjnaaGreat
