/- Rings, in plain Lean: what it is to be right. -/
import Derived.Test.YtpfpgjkbnjnjnaaWGf
namespace Go.Proofs.Ytpfpgjkbnjnjnaa.Rg
open Go Go.Vm
set_option linter.unusedSimpArgs false
set_option maxRecDepth 10000

theorem chk_ok {r : D} : chk r = 0 ↔ badR r = false ∧ (∀ k, k < cap r → er r k = 0) ∧ ∀ j, j < 64 → used r (cap r) j = false → nz r j = false := by
  constructor
  · intro h
    have hb := chk_bad h
    have he := chk_er0 h
    refine ⟨hb, he, fun j hj hu => ?_⟩
    have hs : stray r = false := by
      cases hs : stray r with
      | false => rfl
      | true => simp [chk, hb, firstErrN_zero he, hs] at h
    simp only [stray, List.any_eq_false, List.mem_range, Bool.not_eq_true] at hs
    have := hs j hj
    rw [hu] at this
    simpa using this
  · rintro ⟨hb, he, hn⟩
    have hs : stray r = false := by
      simp only [stray, List.any_eq_false, List.mem_range, Bool.not_eq_true]
      intro j hj
      cases hu : used r (cap r) j with
      | true => simp
      | false => simp [hn j hj hu]
    simp [chk, hb, firstErrN_zero he, hs]

/-- A ring behind a put: what it holds. -/
theorem putD_0 (r x : D) : (putD r x).nth 0 = r.nth 0 ∧ (putD r x).nth 1 = r.nth 1 ∧ (putD r x).nth 2 = r.nth 2 ∧ ((putD r x).nth 3).int = (r.nth 3).int + 1 := ⟨rfl, rfl, rfl, rfl⟩
theorem putD_4 (r x : D) (j : Nat) : ((putD r x).nth 4).nth j = if j = (placeI (r.nth 1).int (r.nth 3).int).toNat then x else (r.nth 4).nth j := by
  show (D.puts (.arr 64 storedS) (r.nth 4) [.idx (placeI (r.nth 1).int (r.nth 3).int).toNat] x).nth j = _
  simp [D.puts_idx]
theorem pl_putD (r x : D) (i : Nat) : pl (putD r x) i = pl r i := rfl
theorem cap_putD {r : D} (h : badR r = false) (x : D) : cap (putD r x) = cap r + 1 := by
  have hb := badR_false h
  show ((r.nth 3).int + 1 - (r.nth 2).int).toNat = ((r.nth 3).int - (r.nth 2).int).toNat + 1
  omega
theorem pl_cap {r : D} (h : badR r = false) : pl r (cap r) = (placeI (r.nth 1).int (r.nth 3).int).toNat := by
  obtain ⟨hc1, hc, hc2⟩ := cap_le h
  unfold pl
  rw [show (r.nth 2).int + ((cap r : Nat) : Int) = (r.nth 3).int by omega]
theorem pl_inj2 {r : D} (h : badR r = false) (hf : (cap r : Int) < (r.nth 1).int) {i j : Nat} (hi : i ≤ cap r) (hj : j ≤ cap r) (e : pl r i = pl r j) : i = j := by
  have hb := badR_false h
  obtain ⟨hc1, hc, hc2⟩ := cap_le h
  have a := pl_eq h (i := i) (by omega)
  have b := pl_eq h (i := j) (by omega)
  rw [e, b] at a
  have d : (((r.nth 2).int + j - 1) - ((r.nth 2).int + i - 1)) % (r.nth 1).int = 0 := Int.emod_eq_zero_of_dvd (Int.dvd_of_emod_eq_zero (by rw [Int.sub_emod, a]; simp))
  have d2 : ((j : Int) - i) % (r.nth 1).int = 0 := by
    have e2 : ((r.nth 2).int + j - 1) - ((r.nth 2).int + i - 1) = (j : Int) - i := by omega
    rw [e2] at d; exact d
  obtain ⟨q, hq⟩ := Int.dvd_of_emod_eq_zero d2
  have hq0 : q = 0 := by
    rcases Int.lt_trichotomy q 0 with hq1 | hq1 | hq1
    · have := Int.mul_le_mul_of_nonneg_left (show q ≤ -1 by omega) (show 0 ≤ (r.nth 1).int by omega)
      omega
    · exact hq1
    · have := Int.mul_le_mul_of_nonneg_left (show 1 ≤ q by omega) (show 0 ≤ (r.nth 1).int by omega)
      omega
  rw [hq0] at hq
  omega
theorem evAt_putD {r : D} (h : badR r = false) (hf : (cap r : Int) < (r.nth 1).int) (x : D) {k : Nat} (hk : k < cap r) : evAt (putD r x) k = evAt r k := by
  show ((putD r x).nth 4).nth (pl r k) = _
  rw [putD_4, if_neg]
  · rfl
  · intro e
    rw [← pl_cap h] at e
    have := pl_inj2 h hf (by omega) (Nat.le_refl _) e
    omega
theorem evAt_putD_cap {r : D} (h : badR r = false) (x : D) : evAt (putD r x) (cap r) = x := by
  show ((putD r x).nth 4).nth (pl r (cap r)) = x
  rw [putD_4, if_pos (pl_cap h)]
theorem chk_putD {r x : D} (h : chk r = 0) (hf : (cap r : Int) < (r.nth 1).int) (hn : (r.nth 3).int ≤ 1099511627776) (hx : evF (r.nth 0).int (r.nth 3).int x (bef r (cap r)) = 0) : chk (putD r x) = 0 := by
  obtain ⟨hb, he, hz⟩ := chk_ok.1 h
  have hb' := badR_false hb
  obtain ⟨hc1, hc, hc2⟩ := cap_le hb
  have hbef : ∀ k, k ≤ cap r → bef (putD r x) k = bef r k := by
    intro k hk
    cases k with
    | zero => rfl
    | succ k => exact evAt_putD hb hf x (by omega)
  refine chk_ok.2 ⟨?_, ?_, ?_⟩
  · obtain ⟨e0, e1, e2, e3⟩ := putD_0 r x
    unfold badR
    rw [e1, e2, e3, wrap_u64 (n := (r.nth 1).int) (by omega) (by omega), wrap_u64 (n := (r.nth 3).int + 1 - (r.nth 2).int) (by omega) (by omega)]
    simp only [Bool.or_eq_false_iff, ltB_false]
    omega
  · intro k hk
    rw [cap_putD hb] at hk
    rcases Nat.lt_or_eq_of_le (Nat.le_of_lt_succ hk) with h1 | rfl
    · show evF (r.nth 0).int ((r.nth 2).int + k) (evAt (putD r x) k) (bef (putD r x) k) = 0
      rw [evAt_putD hb hf x h1, hbef k (by omega)]
      exact he k h1
    · show evF (r.nth 0).int ((r.nth 2).int + cap r) (evAt (putD r x) (cap r)) (bef (putD r x) (cap r)) = 0
      rw [evAt_putD_cap hb, hbef _ (Nat.le_refl _), show (r.nth 2).int + (cap r : Int) = (r.nth 3).int by omega]
      exact hx
  · intro j hj hu
    rw [cap_putD hb, used_succ] at hu
    rw [Bool.or_eq_false_iff] at hu
    have hu1 : used r (cap r) j = false := hu.1
    have hu2 : (pl r (cap r) == j) = false := hu.2
    have h1 := hz j hj hu1
    unfold nz at h1 ⊢
    rw [putD_4, if_neg]
    · exact h1
    · intro e
      rw [← pl_cap hb] at e
      simp [e] at hu2
/-- A ring behind an eviction. -/
theorem cap_evR {r : D} {n : Nat} (hn : n ≤ cap r) : cap (evR r n) = cap r - n := by
  obtain ⟨e0, e1, e3, e2⟩ := evR_0 r n
  unfold cap at hn ⊢
  rw [e2, e3]; omega
theorem pl_evR (r : D) (n i : Nat) : pl (evR r n) i = pl r (n + i) := by
  obtain ⟨e0, e1, e3, e2⟩ := evR_0 r n
  unfold pl
  rw [e1, e2, show (r.nth 2).int + (n : Int) + (i : Int) = (r.nth 2).int + ((n + i : Nat) : Int) by omega]
theorem evAt_evR {r : D} (h : badR r = false) {n i : Nat} (hi : n + i < cap r) : evAt (evR r n) i = evAt r (n + i) := by
  unfold evAt
  rw [pl_evR]
  exact evR_at h hi n (by omega)
theorem evR_zeroed {r : D} {k : Nat} : ∀ {n : Nat}, k < n → ((evR r n).nth 4).nth (pl r k) = D0 storedS
  | 0, h => by omega
  | n + 1, h => by
    rw [evR_4]
    by_cases e : pl r k = pl r n
    · rw [if_pos e]
    · rw [if_neg e]
      have : k ≠ n := fun h2 => e (by rw [h2])
      exact evR_zeroed (by omega)
theorem evR_cell {r : D} {j : Nat} : ∀ {n : Nat}, ((evR r n).nth 4).nth j = D0 storedS ∨ ((evR r n).nth 4).nth j = (r.nth 4).nth j
  | 0 => .inr rfl
  | n + 1 => by
    rw [evR_4]
    by_cases e : j = pl r n
    · rw [if_pos e]; exact .inl rfl
    · rw [if_neg e]; exact evR_cell
theorem evF_before {l no : Int} {x b b' : D} (h : evF l no x b = 0) (h1 : (b'.nth 1).int < (x.nth 1).int) (h2 : (b'.nth 2).int ≤ (x.nth 2).int) : evF l no x b' = 0 := by
  unfold evF at h ⊢
  split at h
  · cases h
  · rename_i g1
    split at h
    · cases h
    · rename_i g2
      split at h
      · cases h
      · rename_i g3
        rw [if_neg g1, if_neg g2, if_neg g3, if_neg (by simp; omega)]
theorem tick_nonneg {r : D} (he : ∀ k, k < cap r → er r k = 0) : ∀ k, k < cap r → 0 ≤ ((evAt r k).nth 2).int
  | 0, h => (evF_zero (he 0 h)).2.2.2.2.2.2.2.2
  | k + 1, h => Int.le_trans (tick_nonneg he k (by omega)) (evF_zero (he (k + 1) h)).2.2.2.2.2.2.2.2
theorem chk_evR {r : D} (h : chk r = 0) {n : Nat} (hn : n ≤ cap r) : chk (evR r n) = 0 := by
  obtain ⟨hb, he, hz⟩ := chk_ok.1 h
  have hb' := badR_false hb
  obtain ⟨hc1, hc, hc2⟩ := cap_le hb
  obtain ⟨e0, e1, e3, e2⟩ := evR_0 r n
  have hcap := cap_evR hn
  refine chk_ok.2 ⟨?_, ?_, ?_⟩
  · unfold badR
    rw [e1, e2, e3, wrap_u64 (n := (r.nth 1).int) (by omega) (by omega), wrap_u64 (n := (r.nth 3).int - ((r.nth 2).int + n)) (by omega) (by omega)]
    simp only [Bool.or_eq_false_iff, ltB_false]
    omega
  · intro k hk
    rw [hcap] at hk
    have hx := he (n + k) (by omega)
    unfold er at hx ⊢
    rw [e0, e2, evAt_evR hb (by omega), show (r.nth 2).int + (n : Int) + (k : Int) = (r.nth 2).int + ((n + k : Nat) : Int) by omega]
    cases k with
    | zero =>
      have hz2 := evF_zero hx
      have ht := tick_nonneg he n (by omega)
      refine evF_before hx ?_ ?_
      · show (0 : Int) < _
        omega
      · exact ht
    | succ k =>
      have e : bef (evR r n) (k + 1) = bef r (n + (k + 1)) := evAt_evR hb (by omega)
      rw [e]; exact hx
  · intro j hj hu
    rw [hcap] at hu
    have hzero : ∀ d : D, d = D0 storedS → (!eqD storedS d (D0 storedS)) = false := fun d hd => by rw [hd, eqStored]; rfl
    unfold nz
    by_cases hur : used r (cap r) j = true
    · obtain ⟨k, hk, rfl⟩ := used_iff.1 hur
      by_cases hkn : k < n
      · exact hzero _ (evR_zeroed hkn)
      · exfalso
        have : used (evR r n) (cap r - n) (pl r k) = true := used_iff.2 ⟨k - n, by omega, by rw [pl_evR, show n + (k - n) = k by omega]⟩
        rw [hu] at this; cases this
    · have hur : used r (cap r) j = false := by simpa using hur
      rcases evR_cell (r := r) (j := j) (n := n) with e | e
      · exact hzero _ e
      · rw [e]; exact hz j hj hur
end Go.Proofs.Ytpfpgjkbnjnjnaa.Rg
