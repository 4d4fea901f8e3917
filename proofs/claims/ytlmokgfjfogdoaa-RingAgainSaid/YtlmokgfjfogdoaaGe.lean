/- Accounts of rings: the reference's Len, List, Get, Lost, From. -/
import Derived.Test.YtlmokgfjfogdoaaGd
namespace Go.Proofs.Ytlmokgfjfogdoaa
open Go Go.Vm
set_option linter.unusedSimpArgs false
set_option maxRecDepth 10000

def cLenR : Ctx := ⟨tab, [], [(24, sCheck), (34, sList)], [], keep, []⟩
theorem lenR_fun : FunOK cLenR 40 Try.f10 sLen := fun r _ _ => by
  refine ⟨fun h1 => ⟨Bears.int ?_, Bears.int ?_, trivial⟩, fun h1 => ⟨Bears.int ?_, Bears.int ?_, trivial⟩⟩
  all_goals replace h1 : (chk r != 0) = _ := h1
  all_goals simp at h1
  · simp [h1]
  · rfl
  · show lenI r = if chk r ≠ 0 then 0 else lenI r
    simp [h1]
  · simp [h1]

theorem fromL_zero {r : D} (h : badR r = false) : fromL r 0 (fromN r 0) = lst r (cap r) := by
  have hb := badR_false h
  have e0 : stI r 0 = (r.nth 2).int := by unfold stI; rw [if_pos (by omega)]
  have e1 : fromI r 0 = 0 := by unfold fromI; rw [e0]; omega
  have e2 : fromN r 0 = cap r := by unfold fromN cap; rw [e0]
  unfold fromL lst
  rw [e1, e2]
  simp
theorem listPR_fun : FunOK cLenR 40 Try.f12 sListP := fun r _ _ => by
  refine ⟨fun h1 => ⟨Bears.same ?_, Bears.int ?_, trivial⟩, fun h1 => ⟨?_, ⟨Bears.same ?_, Bears.int ?_, trivial⟩⟩⟩
  all_goals replace h1 : (chk r != 0) = _ := h1
  all_goals simp at h1
  · simp [h1]
  · rfl
  · exact chk_bad h1
  · rw [if_neg (by simp [h1]), fromL_zero (chk_bad h1)]; exact Same.rfl
  · simp [h1]

theorem getR_fun : FunOK cLenR 60 Try.f15 sGet := fun r _ no hno _ => by
  refine ⟨fun h1 => ⟨fun h2 => ⟨Bears.same ?_, Bears.int ?_, trivial⟩, fun h2 => ?_⟩, fun h1 => ⟨fun h2 => ⟨Bears.same ?_, Bears.int ?_, trivial⟩, fun h2 => ⟨?_, ?_, ⟨Bears.same ?_, Bears.int ?_, trivial⟩⟩⟩⟩
  all_goals replace h1 : (chk r == 0 && (ltB no.int (r.nth 2).int || leB (r.nth 3).int no.int)) = _ := h1
  · simp only [Bool.and_eq_true, beq_iff_eq] at h1
    have e : getE r no.int ≠ 0 := by simp only [getE, h1.1, h1.2]; decide
    simp only [getD', if_pos e]
    exact Same.rfl
  · simp only [Bool.and_eq_true, beq_iff_eq] at h1
    show 7 = getE r no.int
    simp only [getE, h1.1, h1.2]; rfl
  · replace h2 : true = false := h2
    cases h2
  all_goals replace h2 : (chk r != 0) = _ := h2
  all_goals simp only [bne_iff_ne, ne_eq, bne_eq_false_iff_eq] at h2
  · have e : getE r no.int ≠ 0 := by simp [getE, h2]
    simp only [getD', if_pos e]
    exact Same.rfl
  · show chk r = getE r no.int
    simp [getE, h2]
  all_goals have hb := badR_false (chk_bad h2)
  all_goals rw [h2] at h1
  all_goals replace h1 : (ltB no.int (r.nth 2).int || leB (r.nth 3).int no.int) = false := h1
  · show IntKind.u64.wrap (r.nth 1).int ≠ 0
    rw [wrap_u64 (by omega) (by omega)]; omega
  · simp only [Bool.or_eq_false_iff, ltB_false, leB_false] at h1
    have hp := placeI_lt (no := no.int) hb.1 hb.2.1 (by omega) (by omega)
    show 0 ≤ placeI (r.nth 1).int no.int ∧ placeI (r.nth 1).int no.int < ((64 : Nat) : Int)
    omega
  · have e : getE r no.int = 0 := by simp only [getE, h1, h2]; rfl
    simp only [getD', e]
    exact Same.rfl
  · show 0 = getE r no.int
    simp only [getE, h1, h2]; rfl

theorem lostR_fun : FunOK cLenR 60 Try.f19 sLost := fun r _ no hno _ => by
  refine ⟨fun h1 => ⟨fun h2 => ⟨Bears.int ?_, Bears.int ?_, trivial⟩, fun h2 => ?_⟩, fun h1 => ⟨fun h2 => ⟨Bears.int ?_, Bears.int ?_, trivial⟩, fun h2 => ⟨Bears.int ?_, Bears.int ?_, trivial⟩⟩⟩
  all_goals replace h1 : (chk r == 0 && (ltB no.int 1 || ltB (r.nth 3).int no.int)) = _ := h1
  · simp only [Bool.and_eq_true, beq_iff_eq] at h1
    show 0 = lostI r no.int
    simp only [lostI, lostE, h1.1, h1.2]; rfl
  · simp only [Bool.and_eq_true, beq_iff_eq] at h1
    show 2 = lostE r no.int
    simp only [lostE, h1.1, h1.2]; rfl
  · replace h2 : true = false := h2
    cases h2
  all_goals replace h2 : (chk r != 0 || leB (r.nth 2).int no.int) = _ := h2
  · show 0 = lostI r no.int
    by_cases h3 : chk r = 0
    · rw [h3] at h1 h2
      replace h1 : (ltB no.int 1 || ltB (r.nth 3).int no.int) = false := h1
      replace h2 : leB (r.nth 2).int no.int = true := h2
      have e : lostE r no.int = 0 := by simp only [lostE, h1, h3]; rfl
      simp only [leB_true] at h2
      have e2 : stI r no.int = no.int := by unfold stI; split <;> omega
      simp only [lostI, e, e2]; simp
    · simp [lostI, lostE, h3]
  · show chk r = lostE r no.int
    by_cases h3 : chk r = 0
    · rw [h3] at h1 h2
      replace h1 : (ltB no.int 1 || ltB (r.nth 3).int no.int) = false := h1
      rw [h3]
      simp only [lostE, h1, h3]; rfl
    · simp [lostE, h3]
  all_goals simp only [Bool.or_eq_false_iff, bne_eq_false_iff_eq, leB_false] at h2
  all_goals obtain ⟨h3, h2⟩ := h2
  all_goals have hb := badR_false (chk_bad h3)
  all_goals rw [h3] at h1
  all_goals replace h1 : (ltB no.int 1 || ltB (r.nth 3).int no.int) = false := h1
  · have e : lostE r no.int = 0 := by simp only [lostE, h1, h3]; rfl
    have e2 : stI r no.int = (r.nth 2).int := by unfold stI; split <;> omega
    simp only [Bool.or_eq_false_iff, ltB_false] at h1
    show IntKind.u64.wrap ((r.nth 2).int - no.int) = lostI r no.int
    simp only [lostI, e, e2]
    rw [wrap_u64 (by omega) (by omega)]; simp
  · show 0 = lostE r no.int
    simp only [lostE, h1, h3]; rfl

theorem chk_er0 {r : D} (h : chk r = 0) : ∀ k, k < cap r → er r k = 0 := by
  have hb := chk_bad h
  have hf : firstErrN (er r) (cap r) = 0 := by
    by_cases h2 : firstErrN (er r) (cap r) = 0
    · exact h2
    · simp [chk, hb, h2] at h
  have : ∀ n, firstErrN (er r) n = 0 → ∀ k, k < n → er r k = 0 := by
    intro n
    induction n with
    | zero => intro _ k hk; omega
    | succ n ih =>
      intro h k hk
      simp only [firstErrN] at h
      by_cases h2 : firstErrN (er r) n = 0
      · rw [if_neg (by simp [h2])] at h
        rcases Nat.lt_or_eq_of_le (Nat.le_of_lt_succ hk) with h3 | rfl
        · exact ih h2 k h3
        · exact h
      · rw [if_pos h2] at h; exact absurd h h2
  exact this _ hf
theorem fromR_fun : FunOK cLenR 100 Try.f17 sFrom := fun r _ no hno _ => by
  refine ⟨fun h1 => ⟨Bears.same ?_, Bears.int ?_, trivial⟩, fun h1 => ⟨?_, ?_⟩⟩
  all_goals replace h1 : (chk r != 0) = _ := h1
  all_goals simp only [bne_iff_ne, ne_eq, bne_eq_false_iff_eq] at h1
  · simp [h1]
  · rfl
  · exact chk_bad h1
  have hb := badR_false (chk_bad h1)
  obtain ⟨hc1, hc, hc2⟩ := cap_le (chk_bad h1)
  have he := chk_er0 h1
  have hs := stI_le r no.int
  have hs2 : stI r no.int = (r.nth 2).int ∨ stI r no.int = no.int := by unfold stI; split <;> simp
  have hN : fromN r no.int = cap r - fromI r no.int := by unfold fromN fromI cap; omega
  refine ⟨{ i : Nat // i ≤ cap r }, 4, fun i => ([(1, .dat u64 (.I no.int)), (7, .own 3 storedS), (8, .dat (.slice storedS) (.L (lst r (cap r)))), (9, .dat i64 (.I i.1))], [(3, .grow storedS (fromL r no.int (i.1 - fromI r no.int)))]), fun i => cap r - i.1,
    ⟨0, by omega⟩, ⟨[(3, 2)], rfl, ⟨rfl, rfl, rfl, rfl, trivial⟩, ⟨?_, trivial⟩⟩, ?_⟩
  · show some (VO.grow storedS []) = some (VO.grow storedS (fromL r no.int (0 - fromI r no.int)))
    rw [Nat.zero_sub]; rfl
  intro x
  obtain ⟨i, hi⟩ := x
  refine ⟨fun h2 => ⟨?_, fun h3 => ⟨?_, ?_, ?_⟩, fun h3 => ?_⟩, fun h2 => ⟨Bears.same ?_, Bears.int ?_, trivial⟩⟩
  all_goals replace h2 : ltB (i : Int) ((lst r (cap r)).length : Int) = _ := h2
  all_goals rw [lst_len] at h2
  all_goals simp only [ltB_true, ltB_false] at h2
  · show 0 ≤ (i : Int) ∧ (i : Int) < ((lst r (cap r)).length : Int)
    rw [lst_len]; omega
  all_goals try (have hx : (lst r (cap r)).getD (i : Int).toNat .Z = evAt r i := (by rw [Int.toNat_natCast, List.getD_eq_getElem?_getD]; exact lst_get r _ _ (by omega)))
  all_goals try (have hno2 := (evF_zero (he i (by omega))).2.1)
  all_goals try replace hno2 : (((evAt r i).nth 0).nth 1).int = (r.nth 2).int + i := hno2
  all_goals try replace h3 : leB no.int ((((lst r (cap r)).getD (i : Int).toNat .Z).nth 0).nth 1).int = _ := h3
  all_goals try rw [hx, hno2] at h3
  all_goals try simp only [leB_true, leB_false] at h3
  · show 0 ≤ (i : Int) ∧ (i : Int) < ((lst r (cap r)).length : Int)
    rw [lst_len]; omega
  · show (fromL r no.int (i - fromI r no.int)).length + 1 ≤ 1073741824
    simp only [fromL, List.length_map, List.length_range]
    omega
  · have e1 : fromI r no.int ≤ i := by unfold fromI; omega
    have e2 : i + 1 - fromI r no.int = (i - fromI r no.int) + 1 := by omega
    refine ⟨⟨i + 1, by omega⟩, ⟨[(3, 5)], rfl, ⟨rfl, rfl, rfl, congrArg some (succ_i64 (n := i) (by omega)), trivial⟩, ⟨?_, trivial⟩⟩, ?_⟩
    · show some (VO.grow storedS (fromL r no.int (i - fromI r no.int) ++ [(lst r (cap r)).getD (i : Int).toNat .Z])) = some (VO.grow storedS (fromL r no.int (i + 1 - fromI r no.int)))
      rw [hx, e2, fromL_succ, show fromI r no.int + (i - fromI r no.int) = i by omega]
    · show cap r - (i + 1) < cap r - i
      omega
  · have e1 : i < fromI r no.int := by unfold fromI; omega
    refine ⟨⟨i + 1, by omega⟩, ⟨[(3, 3)], rfl, ⟨rfl, rfl, rfl, congrArg some (succ_i64 (n := i) (by omega)), trivial⟩, ⟨?_, trivial⟩⟩, ?_⟩
    · show some (VO.grow storedS (fromL r no.int (i - fromI r no.int))) = some (VO.grow storedS (fromL r no.int (i + 1 - fromI r no.int)))
      rw [show i - fromI r no.int = 0 by omega, show i + 1 - fromI r no.int = 0 by omega]
    · show cap r - (i + 1) < cap r - i
      omega
  · obtain rfl : i = cap r := by omega
    rw [if_neg (by simp [h1]), hN]; exact Same.rfl
  · simp [h1]
end Go.Proofs.Ytlmokgfjfogdoaa
