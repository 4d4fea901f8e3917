/- Cursors: the examples. -/
import Derived.Test.YtmdhmjidmiemmaaWQj
namespace Go.Proofs.Ytmdhmjidmiemmaa
open Go Go.Vm Rg
set_option linter.unusedSimpArgs false
set_option linter.unusedVariables false
set_option maxRecDepth 10000
def alK : Nat → D
  | 0 => newQ stQ0 1
  | i + 1 => tkC stQ3 (alK i)
theorem keyEq {s : Nat} {p b : Bool} (h : b = p) : KeyCond [(s, p, b)] := h
theorem eqT {b c : Bool} (h : b = c) : b = c := h
theorem kn_at : ∀ i, i < 3 → (tkE stQ3 (alK i) != 0 || ((tkX stQ3 (alK i)).nth 3).int != (i : Int)) = false := fun i hi => by
  have : i = 0 ∨ i = 1 ∨ i = 2 := by omega
  rcases this with h | h | h
  · rw [h]; exact eqT (by kernel_rfl)
  · rw [h]; exact eqT (by kernel_rfl)
  · rw [h]; exact eqT (by kernel_rfl)
def cKnQ : Ctx := ⟨tabQ, refsQ, (39, sExQ) :: (16, sTick) :: lawsQ, [], keep, mpsT⟩
theorem knownQ_fun : FunOK cKnQ 200 Try.f8 sTrueT := fun _ => by
  refine ⟨fun h1 => Bears.bool (notSo (by kernel_rfl) h1).elim, fun h1 => ?_⟩
  refine ⟨{ i : Nat // i ≤ 3 }, 4, fun i => ([(6, .dat i64 (.I i.1)), (5, .ptr 3 cursorS [] cursorS), (3, .ptr 2 cursorS [] cursorS), (2, .ptr 1 storeS [] storeS)], [(3, .box cursorS (.dat cursorS (alK i.1))), (2, .box cursorS (.dat cursorS (alK 0))), (1, .box storeS (.dat storeS stQ3))]), fun i => 3 - i.1,
    ⟨0, by omega⟩, ⟨[], rfl, ⟨rfl, rfl, rfl, rfl, trivial⟩, ⟨rfl, rfl, rfl, trivial⟩⟩, ?_⟩
  intro x
  obtain ⟨i, hi⟩ := x
  refine ⟨fun h1 => ⟨fun h2 => absurd h2 ?_, fun h2 => ?_⟩, fun h1 => ?_⟩
  · have hk : i < 3 := by have h3 : ltB (i : Int) 3 = true := h1; simp only [ltB_true] at h3; omega
    have hf := kn_at i hk
    show ¬ (tkE stQ3 (alK i) != 0 || ((tkX stQ3 (alK i)).nth 3).int != (i : Int)) = true
    rw [hf]; decide
  · have hk : i < 3 := by have h3 : ltB (i : Int) 3 = true := h1; simp only [ltB_true] at h3; omega
    exact ⟨⟨i + 1, hk⟩, ⟨[], rfl, ⟨slot (i64_1 (n := i) (by omega)), rfl, rfl, rfl, trivial⟩, ⟨rfl, rfl, rfl, trivial⟩⟩, stepLt hk⟩
  · have he : i = 3 := by have h3 : ltB (i : Int) 3 = false := h1; simp only [ltB_false] at h3; omega
    subst he
    exact ⟨fun h2 => Bears.bool (notSo (by kernel_rfl) h2).elim, fun h2 => ⟨fun h3 => Bears.bool (notSo (by kernel_rfl) h3).elim, fun h3 => ⟨keyEq (by kernel_rfl), trivial, keyEq (by kernel_rfl), trivial, keyEq (by kernel_rfl), trivial, keyEq (by kernel_rfl), trivial, Bears.bool (by kernel_rfl)⟩⟩⟩
theorem knownQ_ok : SumOK Try.prog 8 sTrueT := sumOK_of_vc (c := cKnQ) (CtxOK.of tabQOK refsQOK (.cons exQ_ok (.cons tickTR_ok cLawQs)) FunsOK.nil mpsTOK) mixed Try.func8 rfl (by decide) @knownQ_fun
end Go.Proofs.Ytmdhmjidmiemmaa
