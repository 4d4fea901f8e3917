/- Accounts of rings: the reference's Len, List, Get, Lost, From. -/
import Derived.Test.YtpfpgjkbnjnjnaaGreatWGd
namespace Go.Proofs.YtpfpgjkbnjnjnaaGreat.Rg
open Go Go.Vm
set_option linter.unusedSimpArgs false
set_option maxRecDepth 10000

def cLenR : Ctx := ⟨tab, [], [(87, sCheck), (128, sList)], [], keep, []⟩
theorem fromL_zero {r : D} (h : badR r = false) : fromL r 0 (fromN r 0) = lst r (cap r) := by
  have hb := badR_false h
  have e0 : stI r 0 = (r.nth 2).int := by unfold stI; rw [if_pos (by omega)]
  have e1 : fromI r 0 = 0 := by unfold fromI; rw [e0]; omega
  have e2 : fromN r 0 = cap r := by unfold fromN cap; rw [e0]
  unfold fromL lst
  rw [e1, e2]
  simp
theorem listPR_fun : FunOK cLenR 40 Tryz.f119 sListP := fun r _ _ => by
  refine ⟨fun h1 => ⟨Bears.same ?_, Bears.int ?_, trivial⟩, fun h1 => ⟨?_, ⟨Bears.same ?_, Bears.int ?_, trivial⟩⟩⟩
  all_goals replace h1 : (chk r != 0) = _ := h1
  all_goals simp at h1
  · simp [h1]
  · rfl
  · exact chk_bad h1
  · rw [if_neg (by simp [h1]), fromL_zero (chk_bad h1)]; exact Same.rfl
  · simp [h1]

theorem getR_fun : FunOK cLenR 60 Tryz.f105 sGet := fun r _ no hno _ => by
  refine ⟨fun h1 => ⟨fun h2 => ⟨Bears.same ?_, Bears.int ?_, trivial⟩, fun h2 => ?_⟩, fun h1 => ⟨fun h2 => ⟨Bears.same ?_, Bears.int ?_, trivial⟩, fun h2 => ⟨?_, ?_, ⟨Bears.same ?_, Bears.int ?_, trivial⟩⟩⟩⟩
  all_goals replace h1 : (chk r == 0 && (ltB no.int (r.nth 2).int || leB (r.nth 3).int no.int)) = _ := h1
  · simp only [Bool.and_eq_true, beq_iff_eq] at h1
    have e : getE r no.int ≠ 0 := by simp only [getE, h1.1, h1.2]; decide
    simp only [getD', if_pos e]
    exact Same.rfl
  · simp only [Bool.and_eq_true, beq_iff_eq] at h1
    show 7 = getE r no.int
    simp only [getE, h1.1, h1.2]; rfl
  · replace h2 : true = false := h2
    cases h2
  all_goals replace h2 : (chk r != 0) = _ := h2
  all_goals simp only [bne_iff_ne, ne_eq, bne_eq_false_iff_eq] at h2
  · have e : getE r no.int ≠ 0 := by simp [getE, h2]
    simp only [getD', if_pos e]
    exact Same.rfl
  · show chk r = getE r no.int
    simp [getE, h2]
  all_goals have hb := badR_false (chk_bad h2)
  all_goals rw [h2] at h1
  all_goals replace h1 : (ltB no.int (r.nth 2).int || leB (r.nth 3).int no.int) = false := h1
  · show IntKind.u64.wrap (r.nth 1).int ≠ 0
    rw [wrap_u64 (by omega) (by omega)]; omega
  · simp only [Bool.or_eq_false_iff, ltB_false, leB_false] at h1
    have hp := placeI_lt (no := no.int) hb.1 hb.2.1 (by omega) (by omega)
    show 0 ≤ placeI (r.nth 1).int no.int ∧ placeI (r.nth 1).int no.int < ((64 : Nat) : Int)
    omega
  · have e : getE r no.int = 0 := by simp only [getE, h1, h2]; rfl
    simp only [getD', e]
    exact Same.rfl
  · show 0 = getE r no.int
    simp only [getE, h1, h2]; rfl

theorem chk_er0 {r : D} (h : chk r = 0) : ∀ k, k < cap r → er r k = 0 := by
  have hb := chk_bad h
  have hf : firstErrN (er r) (cap r) = 0 := by
    by_cases h2 : firstErrN (er r) (cap r) = 0
    · exact h2
    · simp [chk, hb, h2] at h
  have : ∀ n, firstErrN (er r) n = 0 → ∀ k, k < n → er r k = 0 := by
    intro n
    induction n with
    | zero => intro _ k hk; omega
    | succ n ih =>
      intro h k hk
      simp only [firstErrN] at h
      by_cases h2 : firstErrN (er r) n = 0
      · rw [if_neg (by simp [h2])] at h
        rcases Nat.lt_or_eq_of_le (Nat.le_of_lt_succ hk) with h3 | rfl
        · exact ih h2 k h3
        · exact h
      · rw [if_pos h2] at h; exact absurd h h2
  exact this _ hf
end Go.Proofs.YtpfpgjkbnjnjnaaGreat.Rg
