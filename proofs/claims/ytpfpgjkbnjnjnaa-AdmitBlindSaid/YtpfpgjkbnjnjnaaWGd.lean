/- Accounts of rings: the reference's check. -/
import Derived.Test.YtpfpgjkbnjnjnaaWGc
namespace Go.Proofs.Ytpfpgjkbnjnjnaa.Rg
open Go Go.Vm
set_option linter.unusedSimpArgs false
set_option maxRecDepth 10000

def countN (p : Nat → Bool) : Nat → Nat
  | 0 => 0
  | n + 1 => countN p n + if p n then 1 else 0
theorem countN_add {p q s : Nat → Bool} : ∀ {n : Nat}, (∀ j, j < n → p j = (q j || s j)) → (∀ j, j < n → (q j && s j) = false) → countN p n = countN q n + countN s n
  | 0, _, _ => rfl
  | n + 1, h1, h2 => by
    have ih := countN_add (n := n) (fun j hj => h1 j (by omega)) (fun j hj => h2 j (by omega))
    have a := h1 n (by omega)
    have b := h2 n (by omega)
    simp only [countN, ih, a]
    cases hq : q n <;> cases hs : s n <;> simp_all <;> omega
theorem countN_congr {p q : Nat → Bool} : ∀ {n : Nat}, (∀ j, j < n → p j = q j) → countN p n = countN q n
  | 0, _ => rfl
  | n + 1, h => by
    have ih := countN_congr (n := n) (fun j hj => h j (by omega))
    simp only [countN, ih, h n (by omega)]
theorem countN_le {p : Nat → Bool} : ∀ {n : Nat}, countN p n ≤ n
  | 0 => Nat.le_refl _
  | n + 1 => by
    have := countN_le (p := p) (n := n)
    simp only [countN]; split <;> omega
theorem countN_one {a : Nat} : ∀ {n : Nat}, countN (fun j => a == j) n = if a < n then 1 else 0
  | 0 => by simp [countN]
  | n + 1 => by
    have ih := countN_one (a := a) (n := n)
    simp only [countN, ih]
    by_cases h1 : a < n
    · have h0 : (a == n) = false := by simp; omega
      have h2 : a < n + 1 := by omega
      simp [h0, h1, h2]
    · by_cases h2 : a = n
      · subst h2; simp
      · have h0 : (a == n) = false := by simp; omega
        have h3 : ¬ a < n + 1 := by omega
        simp [h0, h1, h3]
theorem countN_zero {p : Nat → Bool} : ∀ {n : Nat}, countN p n = 0 ↔ ∀ j, j < n → p j = false
  | 0 => by simp [countN]
  | n + 1 => by
    have ih := countN_zero (p := p) (n := n)
    simp only [countN]
    constructor
    · intro h j hj
      have h0 : countN p n = 0 := by omega
      rcases Nat.lt_or_eq_of_le (Nat.le_of_lt_succ hj) with h1 | rfl
      · exact ih.1 h0 j h1
      · cases hp : p j with
        | false => rfl
        | true => rw [hp] at h; simp at h
    · intro h
      rw [ih.2 (fun j hj => h j (by omega)), h n (by omega)]; simp
theorem pl_lt {r : D} (h : badR r = false) {i : Nat} (hi : i ≤ cap r) : pl r i < 64 := by
  have hb := badR_false h
  obtain ⟨hc1, hc, hc2⟩ := cap_le h
  have hp := placeI_lt (no := (r.nth 2).int + i) hb.1 hb.2.1 (by omega) (by omega)
  unfold pl; omega
theorem used_iff {r : D} {n j : Nat} : used r n j = true ↔ ∃ k, k < n ∧ pl r k = j := by
  simp [used]
theorem used_count {r : D} (h : badR r = false) : ∀ {n : Nat}, n ≤ cap r → countN (used r n) 64 = n
  | 0, _ => by
    rw [countN_zero]; intro j _; simp [used]
  | n + 1, hn => by
    have ih := used_count h (n := n) (by omega)
    rw [countN_add (q := used r n) (s := fun j => pl r n == j) (fun j _ => used_succ r n j) (fun j _ => ?_), ih, countN_one, if_pos (pl_lt h (by omega))]
    rw [Bool.and_eq_false_iff]
    by_cases e : pl r n = j
    · left
      rw [Bool.eq_false_iff]
      intro hu
      obtain ⟨k, hk, e2⟩ := used_iff.1 hu
      have := pl_inj h (show k < cap r by omega) (show n < cap r by omega) (by rw [e2, e])
      omega
    · right; simp [e]
theorem evF_zero {l no : Int} {x b : D} (h : evF l no x b = 0) : ((x.nth 0).nth 0).int = l ∧ ((x.nth 0).nth 1).int = no ∧ 0 ≤ (x.nth 3).int ∧ (x.nth 3).int ≤ 25 ∧ 1 ≤ (x.nth 1).int ∧ (x.nth 1).int ≤ 1099511627776 ∧ (x.nth 2).int ≤ 1099511627776 ∧ (b.nth 1).int < (x.nth 1).int ∧ (b.nth 2).int ≤ (x.nth 2).int := by
  unfold evF at h
  split at h
  · cases h
  · rename_i h1
    split at h
    · cases h
    · rename_i h2
      split at h
      · cases h
      · rename_i h3
        split at h
        · cases h
        · rename_i h4
          simp at h1 h2 h3 h4
          simp [eqD, eqDs, idD] at h1
          omega
theorem nz_of_no {r : D} {j : Nat} (h : 1 ≤ ((((r.nth 4).nth j).nth 0).nth 1).int) : nz r j = true := by
  simp only [nz, Bool.not_eq_true', Bool.eq_false_iff]
  intro e
  simp [eqD, eqDs, D0, D0s] at e
  omega
theorem stray_count {r : D} (h : badR r = false) (he : ∀ k, k < cap r → er r k = 0) : countN (nz r) 64 = cap r ↔ stray r = false := by
  have hb := badR_false h
  have h1 : countN (nz r) 64 = countN (used r (cap r)) 64 + countN (fun j => !used r (cap r) j && nz r j) 64 := by
    refine countN_add (fun j _ => ?_) (fun j _ => ?_)
    · cases hu : used r (cap r) j with
      | false => simp
      | true =>
        obtain ⟨k, hk, rfl⟩ := used_iff.1 hu
        have := evF_zero (he k hk)
        have hz : nz r (pl r k) = true := nz_of_no (by show 1 ≤ (((evAt r k).nth 0).nth 1).int; omega)
        simp [hz]
    · cases used r (cap r) j <;> simp
  rw [h1, used_count h (Nat.le_refl _)]
  have h2 : stray r = false ↔ countN (fun j => !used r (cap r) j && nz r j) 64 = 0 := by
    rw [countN_zero]
    simp only [stray, List.any_eq_false, List.mem_range, Bool.not_eq_true]
  rw [h2]; omega

theorem er_3 {r : D} {i : Nat} (h : (!eqD idS ((evAt r i).nth 0) (idD (r.nth 0).int ((r.nth 2).int + i))) = true) : er r i = 3 := by
  simp only [Bool.not_eq_true'] at h
  simp only [er, evF, h, if_true]
theorem er_11 {r : D} {i : Nat} (h : (!eqD idS ((evAt r i).nth 0) (idD (r.nth 0).int ((r.nth 2).int + i))) = false) (h2 : (ltB ((evAt r i).nth 3).int 0 || ltB 25 ((evAt r i).nth 3).int) = true) : er r i = 11 := by
  simp only [Bool.not_eq_false'] at h
  simp only [er, evF, h, h2, if_true, Bool.true_eq_false, if_false]
theorem er_2 {r : D} {i : Nat} (h : (!eqD idS ((evAt r i).nth 0) (idD (r.nth 0).int ((r.nth 2).int + i))) = false) (h2 : (ltB ((evAt r i).nth 3).int 0 || ltB 25 ((evAt r i).nth 3).int) = false)
    (h3 : (ltB ((evAt r i).nth 1).int 1 || ltB 1099511627776 ((evAt r i).nth 1).int || ltB 1099511627776 ((evAt r i).nth 2).int) = true) : er r i = 2 := by
  simp only [Bool.not_eq_false'] at h
  simp only [er, evF, h, h2, h3, if_true, Bool.true_eq_false, Bool.false_eq_true, if_false]
theorem er_last {r : D} {i : Nat} (h : (!eqD idS ((evAt r i).nth 0) (idD (r.nth 0).int ((r.nth 2).int + i))) = false) (h2 : (ltB ((evAt r i).nth 3).int 0 || ltB 25 ((evAt r i).nth 3).int) = false)
    (h3 : (ltB ((evAt r i).nth 1).int 1 || ltB 1099511627776 ((evAt r i).nth 1).int || ltB 1099511627776 ((evAt r i).nth 2).int) = false) :
    er r i = if (leB ((evAt r i).nth 1).int ((bef r i).nth 1).int || ltB ((evAt r i).nth 2).int ((bef r i).nth 2).int) = true then 9 else 0 := by
  simp only [Bool.not_eq_false'] at h
  simp only [er, evF, h, h2, h3, if_true, Bool.true_eq_false, Bool.false_eq_true, if_false]
theorem evAt_u {r : D} (hr : InR ringS r) (h : badR r = false) {i : Nat} (hi : i ≤ cap r) : 0 ≤ ((evAt r i).nth 1).int ∧ 0 ≤ ((evAt r i).nth 2).int := by
  have hp := pl_lt h hi
  simp only [InR, InRs] at hr
  have := hr.2.2.2.2.1 (pl r i) hp
  simp only [evAt]
  exact ⟨this.2.1.1, this.2.2.1.1⟩
/-- The test with the one before, as the reference makes it. -/
theorem er_bef {r : D} (hr : InR ringS r) (hb : badR r = false) {i : Nat} (hi : i < cap r) (h3 : (ltB ((evAt r i).nth 1).int 1 || ltB 1099511627776 ((evAt r i).nth 1).int || ltB 1099511627776 ((evAt r i).nth 2).int) = false) :
    (ltB 0 (i : Int) && (leB ((evAt r i).nth 1).int ((evAt r (i - 1)).nth 1).int || ltB ((evAt r i).nth 2).int ((evAt r (i - 1)).nth 2).int)) =
      (leB ((evAt r i).nth 1).int ((bef r i).nth 1).int || ltB ((evAt r i).nth 2).int ((bef r i).nth 2).int) := by
  cases i with
  | zero =>
    have hu := evAt_u hr hb (i := 0) (by omega)
    have e1 : leB ((evAt r 0).nth 1).int ((bef r 0).nth 1).int = false := by
      simp at h3 ⊢
      show (0 : Int) < _
      omega
    have e2 : ltB ((evAt r 0).nth 2).int ((bef r 0).nth 2).int = false := by
      simp only [ltB_false]
      exact hu.2
    rw [e1, e2]; rfl
  | succ i =>
    have e : ltB 0 ((i + 1 : Nat) : Int) = true := by simp only [ltB_true]; omega
    rw [e, Bool.true_and]; rfl

theorem chk_er {r : D} (hb : badR r = false) {i : Nat} (hi : i < cap r) (he : ∀ k, k < i → er r k = 0) (h : er r i ≠ 0) : er r i = chk r := by
  have h6 := firstErrN_at (f := er r) hi he h
  simp [chk, hb, h6, h]
def cCheckR : Ctx := ⟨tab, [], [], [], keep, []⟩
end Go.Proofs.Ytpfpgjkbnjnjnaa.Rg
