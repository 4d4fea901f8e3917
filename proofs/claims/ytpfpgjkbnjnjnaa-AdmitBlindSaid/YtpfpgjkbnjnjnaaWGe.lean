/- Accounts of rings: the reference's Len, List, Get, Lost, From. -/
import Derived.Test.YtpfpgjkbnjnjnaaWGd
namespace Go.Proofs.Ytpfpgjkbnjnjnaa.Rg
open Go Go.Vm
set_option linter.unusedSimpArgs false
set_option maxRecDepth 10000

def cLenR : Ctx := ⟨tab, [], [], [], keep, []⟩
theorem fromL_zero {r : D} (h : badR r = false) : fromL r 0 (fromN r 0) = lst r (cap r) := by
  have hb := badR_false h
  have e0 : stI r 0 = (r.nth 2).int := by unfold stI; rw [if_pos (by omega)]
  have e1 : fromI r 0 = 0 := by unfold fromI; rw [e0]; omega
  have e2 : fromN r 0 = cap r := by unfold fromN cap; rw [e0]
  unfold fromL lst
  rw [e1, e2]
  simp
theorem chk_er0 {r : D} (h : chk r = 0) : ∀ k, k < cap r → er r k = 0 := by
  have hb := chk_bad h
  have hf : firstErrN (er r) (cap r) = 0 := by
    by_cases h2 : firstErrN (er r) (cap r) = 0
    · exact h2
    · simp [chk, hb, h2] at h
  have : ∀ n, firstErrN (er r) n = 0 → ∀ k, k < n → er r k = 0 := by
    intro n
    induction n with
    | zero => intro _ k hk; omega
    | succ n ih =>
      intro h k hk
      simp only [firstErrN] at h
      by_cases h2 : firstErrN (er r) n = 0
      · rw [if_neg (by simp [h2])] at h
        rcases Nat.lt_or_eq_of_le (Nat.le_of_lt_succ hk) with h3 | rfl
        · exact ih h2 k h3
        · exact h
      · rw [if_pos h2] at h; exact absurd h h2
  exact this _ hf
end Go.Proofs.Ytpfpgjkbnjnjnaa.Rg
