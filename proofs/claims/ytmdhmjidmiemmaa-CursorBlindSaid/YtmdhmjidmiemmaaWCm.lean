/- Accounts of quotas: the examples, and what is made of numbers. -/
import Derived.Test.YtmdhmjidmiemmaaWTa
namespace Go.Proofs.Ytmdhmjidmiemmaa.Cf
open Go Go.Vm
set_option linter.unusedSimpArgs false
set_option maxRecDepth 10000
def modI (a n : Int) : Int := if ltB n 1 then 0 else if ltB (a.tmod n) 0 then IntKind.i64.wrap (a.tmod n + n) else a.tmod n
def sMod : Sum := ⟨[i64, i64], fun _ => none, fun
  | [a, n] => .dat i64 (.I (modI a.int n.int))
  | _ => .und⟩
theorem mod_fun : FunOK c0 40 Try.f11 sMod := fun a _ n _ _ => by
  refine ⟨fun h1 => Bears.int ?_, fun h1 => ⟨?_, fun h2 => Bears.int ?_, fun h2 => Bears.int ?_⟩⟩
  all_goals replace h1 : ltB n.int 1 = _ := h1
  · show 0 = modI a.int n.int
    simp [modI, h1]
  · simp only [ltB_false] at h1
    show n.int ≠ 0
    omega
  all_goals replace h2 : ltB (a.int.tmod n.int) 0 = _ := h2
  · show IntKind.i64.wrap (a.int.tmod n.int + n.int) = modI a.int n.int
    simp only [modI, h1, h2]; rfl
  · show a.int.tmod n.int = modI a.int n.int
    simp only [modI, h1, h2]; rfl
theorem modI_range {a n : Int} (h : 1 ≤ n) (h2 : n ≤ 9223372036854775807) : 0 ≤ modI a n ∧ modI a n < n := by
  have h1 : ltB n 1 = false := by simp only [ltB_false]; exact h
  have a1 := Int.tmod_lt_of_pos a (show 0 < n by omega)
  have a2 : -n < a.tmod n := by
    have := Int.tmod_lt_of_pos (-a) (show 0 < n by omega)
    rw [Int.neg_tmod] at this; omega
  simp only [modI, h1, Bool.false_eq_true, if_false]
  by_cases h3 : ltB (a.tmod n) 0 = true
  · rw [if_pos h3]
    simp only [ltB_true] at h3
    rw [wrap_i64 (by omega) (by omega)]; omega
  · rw [if_neg h3]
    simp only [ltB_true] at h3
    omega
theorem mod_ok : SumOK Try.prog 11 sMod := sumOK_of_vc (c := c0) (ctxOK .nil) mixed Try.func11 rfl (by decide) @mod_fun
def labs5 : List D := [.I 0, .I 1, .I 2, .I 3, .I 5]
def sLabels : Sum := ⟨[], fun _ => none, fun _ => .dat (.slice u64) (.L labs5)⟩
theorem labels5_fun : FunOK c0 40 Try.f63 sLabels := fun _ => by
  exact Bears.same (eqSame rfl)
theorem labels5_ok : SumOK Try.prog 63 sLabels := sumOK_of_vc (c := c0) (ctxOK .nil) mixed Try.func63 rfl (by decide) @labels5_fun
end Go.Proofs.Ytmdhmjidmiemmaa.Cf
