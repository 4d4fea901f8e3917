/- Accounts of rings: the reference's check. -/
import Derived.Test.YtpfpgjkbnjnjnaaGreatWGc
namespace Go.Proofs.YtpfpgjkbnjnjnaaGreat.Rg
open Go Go.Vm
set_option linter.unusedSimpArgs false
set_option maxRecDepth 10000

def countN (p : Nat → Bool) : Nat → Nat
  | 0 => 0
  | n + 1 => countN p n + if p n then 1 else 0
theorem countN_add {p q s : Nat → Bool} : ∀ {n : Nat}, (∀ j, j < n → p j = (q j || s j)) → (∀ j, j < n → (q j && s j) = false) → countN p n = countN q n + countN s n
  | 0, _, _ => rfl
  | n + 1, h1, h2 => by
    have ih := countN_add (n := n) (fun j hj => h1 j (by omega)) (fun j hj => h2 j (by omega))
    have a := h1 n (by omega)
    have b := h2 n (by omega)
    simp only [countN, ih, a]
    cases hq : q n <;> cases hs : s n <;> simp_all <;> omega
theorem countN_congr {p q : Nat → Bool} : ∀ {n : Nat}, (∀ j, j < n → p j = q j) → countN p n = countN q n
  | 0, _ => rfl
  | n + 1, h => by
    have ih := countN_congr (n := n) (fun j hj => h j (by omega))
    simp only [countN, ih, h n (by omega)]
theorem countN_le {p : Nat → Bool} : ∀ {n : Nat}, countN p n ≤ n
  | 0 => Nat.le_refl _
  | n + 1 => by
    have := countN_le (p := p) (n := n)
    simp only [countN]; split <;> omega
theorem countN_one {a : Nat} : ∀ {n : Nat}, countN (fun j => a == j) n = if a < n then 1 else 0
  | 0 => by simp [countN]
  | n + 1 => by
    have ih := countN_one (a := a) (n := n)
    simp only [countN, ih]
    by_cases h1 : a < n
    · have h0 : (a == n) = false := by simp; omega
      have h2 : a < n + 1 := by omega
      simp [h0, h1, h2]
    · by_cases h2 : a = n
      · subst h2; simp
      · have h0 : (a == n) = false := by simp; omega
        have h3 : ¬ a < n + 1 := by omega
        simp [h0, h1, h3]
theorem countN_zero {p : Nat → Bool} : ∀ {n : Nat}, countN p n = 0 ↔ ∀ j, j < n → p j = false
  | 0 => by simp [countN]
  | n + 1 => by
    have ih := countN_zero (p := p) (n := n)
    simp only [countN]
    constructor
    · intro h j hj
      have h0 : countN p n = 0 := by omega
      rcases Nat.lt_or_eq_of_le (Nat.le_of_lt_succ hj) with h1 | rfl
      · exact ih.1 h0 j h1
      · cases hp : p j with
        | false => rfl
        | true => rw [hp] at h; simp at h
    · intro h
      rw [ih.2 (fun j hj => h j (by omega)), h n (by omega)]; simp
theorem pl_lt {r : D} (h : badR r = false) {i : Nat} (hi : i ≤ cap r) : pl r i < 64 := by
  have hb := badR_false h
  obtain ⟨hc1, hc, hc2⟩ := cap_le h
  have hp := placeI_lt (no := (r.nth 2).int + i) hb.1 hb.2.1 (by omega) (by omega)
  unfold pl; omega
theorem used_iff {r : D} {n j : Nat} : used r n j = true ↔ ∃ k, k < n ∧ pl r k = j := by
  simp [used]
theorem used_count {r : D} (h : badR r = false) : ∀ {n : Nat}, n ≤ cap r → countN (used r n) 64 = n
  | 0, _ => by
    rw [countN_zero]; intro j _; simp [used]
  | n + 1, hn => by
    have ih := used_count h (n := n) (by omega)
    rw [countN_add (q := used r n) (s := fun j => pl r n == j) (fun j _ => used_succ r n j) (fun j _ => ?_), ih, countN_one, if_pos (pl_lt h (by omega))]
    rw [Bool.and_eq_false_iff]
    by_cases e : pl r n = j
    · left
      rw [Bool.eq_false_iff]
      intro hu
      obtain ⟨k, hk, e2⟩ := used_iff.1 hu
      have := pl_inj h (show k < cap r by omega) (show n < cap r by omega) (by rw [e2, e])
      omega
    · right; simp [e]
theorem evF_zero {l no : Int} {x b : D} (h : evF l no x b = 0) : ((x.nth 0).nth 0).int = l ∧ ((x.nth 0).nth 1).int = no ∧ 0 ≤ (x.nth 3).int ∧ (x.nth 3).int ≤ 25 ∧ 1 ≤ (x.nth 1).int ∧ (x.nth 1).int ≤ 1099511627776 ∧ (x.nth 2).int ≤ 1099511627776 ∧ (b.nth 1).int < (x.nth 1).int ∧ (b.nth 2).int ≤ (x.nth 2).int := by
  unfold evF at h
  split at h
  · cases h
  · rename_i h1
    split at h
    · cases h
    · rename_i h2
      split at h
      · cases h
      · rename_i h3
        split at h
        · cases h
        · rename_i h4
          simp at h1 h2 h3 h4
          simp [eqD, eqDs, idD] at h1
          omega
theorem nz_of_no {r : D} {j : Nat} (h : 1 ≤ ((((r.nth 4).nth j).nth 0).nth 1).int) : nz r j = true := by
  simp only [nz, Bool.not_eq_true', Bool.eq_false_iff]
  intro e
  simp [eqD, eqDs, D0, D0s] at e
  omega
theorem stray_count {r : D} (h : badR r = false) (he : ∀ k, k < cap r → er r k = 0) : countN (nz r) 64 = cap r ↔ stray r = false := by
  have hb := badR_false h
  have h1 : countN (nz r) 64 = countN (used r (cap r)) 64 + countN (fun j => !used r (cap r) j && nz r j) 64 := by
    refine countN_add (fun j _ => ?_) (fun j _ => ?_)
    · cases hu : used r (cap r) j with
      | false => simp
      | true =>
        obtain ⟨k, hk, rfl⟩ := used_iff.1 hu
        have := evF_zero (he k hk)
        have hz : nz r (pl r k) = true := nz_of_no (by show 1 ≤ (((evAt r k).nth 0).nth 1).int; omega)
        simp [hz]
    · cases used r (cap r) j <;> simp
  rw [h1, used_count h (Nat.le_refl _)]
  have h2 : stray r = false ↔ countN (fun j => !used r (cap r) j && nz r j) 64 = 0 := by
    rw [countN_zero]
    simp only [stray, List.any_eq_false, List.mem_range, Bool.not_eq_true]
  rw [h2]; omega

theorem er_3 {r : D} {i : Nat} (h : (!eqD idS ((evAt r i).nth 0) (idD (r.nth 0).int ((r.nth 2).int + i))) = true) : er r i = 3 := by
  simp only [Bool.not_eq_true'] at h
  simp only [er, evF, h, if_true]
theorem er_11 {r : D} {i : Nat} (h : (!eqD idS ((evAt r i).nth 0) (idD (r.nth 0).int ((r.nth 2).int + i))) = false) (h2 : (ltB ((evAt r i).nth 3).int 0 || ltB 25 ((evAt r i).nth 3).int) = true) : er r i = 11 := by
  simp only [Bool.not_eq_false'] at h
  simp only [er, evF, h, h2, if_true, Bool.true_eq_false, if_false]
theorem er_2 {r : D} {i : Nat} (h : (!eqD idS ((evAt r i).nth 0) (idD (r.nth 0).int ((r.nth 2).int + i))) = false) (h2 : (ltB ((evAt r i).nth 3).int 0 || ltB 25 ((evAt r i).nth 3).int) = false)
    (h3 : (ltB ((evAt r i).nth 1).int 1 || ltB 1099511627776 ((evAt r i).nth 1).int || ltB 1099511627776 ((evAt r i).nth 2).int) = true) : er r i = 2 := by
  simp only [Bool.not_eq_false'] at h
  simp only [er, evF, h, h2, h3, if_true, Bool.true_eq_false, Bool.false_eq_true, if_false]
theorem er_last {r : D} {i : Nat} (h : (!eqD idS ((evAt r i).nth 0) (idD (r.nth 0).int ((r.nth 2).int + i))) = false) (h2 : (ltB ((evAt r i).nth 3).int 0 || ltB 25 ((evAt r i).nth 3).int) = false)
    (h3 : (ltB ((evAt r i).nth 1).int 1 || ltB 1099511627776 ((evAt r i).nth 1).int || ltB 1099511627776 ((evAt r i).nth 2).int) = false) :
    er r i = if (leB ((evAt r i).nth 1).int ((bef r i).nth 1).int || ltB ((evAt r i).nth 2).int ((bef r i).nth 2).int) = true then 9 else 0 := by
  simp only [Bool.not_eq_false'] at h
  simp only [er, evF, h, h2, h3, if_true, Bool.true_eq_false, Bool.false_eq_true, if_false]
theorem evAt_u {r : D} (hr : InR ringS r) (h : badR r = false) {i : Nat} (hi : i ≤ cap r) : 0 ≤ ((evAt r i).nth 1).int ∧ 0 ≤ ((evAt r i).nth 2).int := by
  have hp := pl_lt h hi
  simp only [InR, InRs] at hr
  have := hr.2.2.2.2.1 (pl r i) hp
  simp only [evAt]
  exact ⟨this.2.1.1, this.2.2.1.1⟩
/-- The test with the one before, as the reference makes it. -/
theorem er_bef {r : D} (hr : InR ringS r) (hb : badR r = false) {i : Nat} (hi : i < cap r) (h3 : (ltB ((evAt r i).nth 1).int 1 || ltB 1099511627776 ((evAt r i).nth 1).int || ltB 1099511627776 ((evAt r i).nth 2).int) = false) :
    (ltB 0 (i : Int) && (leB ((evAt r i).nth 1).int ((evAt r (i - 1)).nth 1).int || ltB ((evAt r i).nth 2).int ((evAt r (i - 1)).nth 2).int)) =
      (leB ((evAt r i).nth 1).int ((bef r i).nth 1).int || ltB ((evAt r i).nth 2).int ((bef r i).nth 2).int) := by
  cases i with
  | zero =>
    have hu := evAt_u hr hb (i := 0) (by omega)
    have e1 : leB ((evAt r 0).nth 1).int ((bef r 0).nth 1).int = false := by
      simp at h3 ⊢
      show (0 : Int) < _
      omega
    have e2 : ltB ((evAt r 0).nth 2).int ((bef r 0).nth 2).int = false := by
      simp only [ltB_false]
      exact hu.2
    rw [e1, e2]; rfl
  | succ i =>
    have e : ltB 0 ((i + 1 : Nat) : Int) = true := by simp only [ltB_true]; omega
    rw [e, Bool.true_and]; rfl

theorem chk_er {r : D} (hb : badR r = false) {i : Nat} (hi : i < cap r) (he : ∀ k, k < i → er r k = 0) (h : er r i ≠ 0) : er r i = chk r := by
  have h6 := firstErrN_at (f := er r) hi he h
  simp [chk, hb, h6, h]
def cCheckR : Ctx := ⟨tab, [], [(128, sList)], [], keep, []⟩
theorem checkR_fun : FunOK cCheckR 100 Tryz.f87 sCheck := fun r hr _ => by
  refine ⟨fun h1 => Bears.int ?_, fun h1 => ?_⟩
  · replace h1 : (ltB (r.nth 1).int 1 || ltB 64 (r.nth 1).int || ltB (r.nth 2).int 1 || ltB 1099511627777 (r.nth 3).int || ltB (r.nth 3).int (r.nth 2).int || ltB (IntKind.u64.wrap (r.nth 1).int) (IntKind.u64.wrap ((r.nth 3).int - (r.nth 2).int))) = true := h1
    have e : badR r = true := by
      unfold badR; simp at h1 ⊢; omega
    show 2 = chk r
    simp [chk, e]
  have hbad : badR r = false := by
    replace h1 : (ltB (r.nth 1).int 1 || ltB 64 (r.nth 1).int || ltB (r.nth 2).int 1 || ltB 1099511627777 (r.nth 3).int || ltB (r.nth 3).int (r.nth 2).int || ltB (IntKind.u64.wrap (r.nth 1).int) (IntKind.u64.wrap ((r.nth 3).int - (r.nth 2).int))) = false := h1
    unfold badR; simp at h1 ⊢; omega
  clear h1
  have hb := badR_false hbad
  obtain ⟨hc1, hc, hc2⟩ := cap_le hbad
  refine ⟨hbad, { i : Nat // i ≤ cap r ∧ ∀ k, k < i → er r k = 0 }, 1, fun i => ([(1, .ptr 0 ringS [] ringS), (3, .dat (.slice storedS) (.L (lst r (cap r)))), (4, .dat i64 (.I i.1))], [(0, .box ringS (.dat ringS r))]), fun i => cap r - i.1,
    ⟨0, by omega, fun k h => by omega⟩, ⟨[], rfl, ⟨rfl, rfl, rfl, trivial⟩, ⟨rfl, trivial⟩⟩, ?_⟩
  intro x
  obtain ⟨i, hi, he⟩ := x
  have hwi : IntKind.u64.wrap (i : Int) = i := wrap_u64 (by omega) (by omega)
  have hwf : IntKind.u64.wrap ((r.nth 2).int + i) = (r.nth 2).int + i := wrap_u64 (by omega) (by omega)
  have hwm : IntKind.i64.wrap ((i : Int) - 1) = i - 1 := wrap_i64 (by omega) (by omega)
  have hlt : ltB (i : Int) ((lst r (cap r)).length : Int) = true → i < cap r := by
    intro h
    rw [lst_len] at h
    simp at h; exact h
  have hx : i < cap r → (lst r (cap r)).getD (i : Int).toNat .Z = evAt r i := by
    intro h
    rw [Int.toNat_natCast, List.getD_eq_getElem?_getD]
    exact lst_get r _ _ h
  have hx2 : i < cap r → (lst r (cap r)).getD (IntKind.i64.wrap ((i : Int) - 1)).toNat .Z = if i = 0 then evAt r 0 else evAt r (i - 1) := by
    intro h
    rw [hwm, List.getD_eq_getElem?_getD]
    split
    · rename_i e; subst e; exact lst_get r _ _ h
    · have : ((i : Int) - 1).toNat = i - 1 := by omega
      rw [this]; exact lst_get r _ _ (by omega)
  have hx3 : (if i = 0 then evAt r 0 else evAt r (i - 1)) = evAt r (i - 1) := by
    split
    · rename_i e; subst e; rfl
    · rfl
  have pre : ltB 0 (i : Int) = true → i < cap r → 0 ≤ IntKind.i64.wrap ((i : Int) - 1) ∧ IntKind.i64.wrap ((i : Int) - 1) < ((lst r (cap r)).length : Int) := by
    intro h1 h2
    rw [hwm, lst_len]
    simp at h1; omega
  refine ⟨fun h2 => ⟨?_, fun a1 => Bears.int ?_, fun a1 => ⟨fun a2 => Bears.int ?_, fun a2 => ⟨fun a3 => Bears.int ?_, fun a3 => ⟨?_, ?_, by kernel_rfl, fun a4 => Bears.int ?_, fun a4 => ?_⟩⟩⟩⟩, fun h2 => ?_⟩
  all_goals replace h2 : ltB (i : Int) ((lst r (cap r)).length : Int) = _ := h2
  · show 0 ≤ (i : Int) ∧ (i : Int) < ((lst r (cap r)).length : Int)
    have := hlt h2
    rw [lst_len]; omega
  · have hic := hlt h2
    replace a1 : (!eqD idS (((lst r (cap r)).getD (i : Int).toNat .Z).nth 0) (idD (r.nth 0).int (IntKind.u64.wrap ((r.nth 2).int + IntKind.u64.wrap (i : Int))))) = true := a1
    rw [hwi, hwf, hx hic] at a1
    have := er_3 a1
    show 3 = chk r
    rw [← this]
    exact chk_er hbad hic he (by omega)
  all_goals try have hic := hlt h2
  all_goals try replace a1 : (!eqD idS (((lst r (cap r)).getD (i : Int).toNat .Z).nth 0) (idD (r.nth 0).int (IntKind.u64.wrap ((r.nth 2).int + IntKind.u64.wrap (i : Int))))) = false := a1
  all_goals try rw [hwi, hwf, hx hic] at a1
  all_goals try replace a2 : (ltB (((lst r (cap r)).getD (i : Int).toNat .Z).nth 3).int 0 || ltB 25 (((lst r (cap r)).getD (i : Int).toNat .Z).nth 3).int) = _ := a2
  all_goals try rw [hx hic] at a2
  · have := er_11 a1 a2
    show 11 = chk r
    rw [← this]
    exact chk_er hbad hic he (by omega)
  all_goals try replace a3 : (ltB (((lst r (cap r)).getD (i : Int).toNat .Z).nth 1).int 1 || ltB 1099511627776 (((lst r (cap r)).getD (i : Int).toNat .Z).nth 1).int || ltB 1099511627776 (((lst r (cap r)).getD (i : Int).toNat .Z).nth 2).int) = _ := a3
  all_goals try rw [hx hic] at a3
  · have := er_2 a1 a2 a3
    show 2 = chk r
    rw [← this]
    exact chk_er hbad hic he (by omega)
  · exact fun hk => pre hk hic
  · exact fun hk => pre hk.2 hic
  all_goals try replace a4 : (ltB 0 (i : Int) && (leB (((lst r (cap r)).getD (i : Int).toNat .Z).nth 1).int (((lst r (cap r)).getD (IntKind.i64.wrap ((i : Int) - 1)).toNat .Z).nth 1).int ||
      ltB (((lst r (cap r)).getD (i : Int).toNat .Z).nth 2).int (((lst r (cap r)).getD (IntKind.i64.wrap ((i : Int) - 1)).toNat .Z).nth 2).int)) = _ := a4
  all_goals try rw [hx hic, hx2 hic, hx3, er_bef hr hbad hic a3] at a4
  · have := er_last a1 a2 a3
    rw [a4, if_pos rfl] at this
    show 9 = chk r
    rw [← this]
    exact chk_er hbad hic he (by omega)
  · have := er_last a1 a2 a3
    rw [a4, if_neg (by simp)] at this
    refine ⟨⟨i + 1, by omega, fun k hk => ?_⟩, ⟨[], rfl, ⟨rfl, rfl, congrArg some (succ_i64 (n := i) (by omega)), trivial⟩, ⟨rfl, trivial⟩⟩, ?_⟩
    · rcases Nat.lt_or_eq_of_le (Nat.le_of_lt_succ hk) with h | rfl
      · exact he k h
      · exact this
    · show cap r - (i + 1) < cap r - i
      omega
  · rw [lst_len] at h2
    simp at h2
    obtain rfl : i = cap r := by omega
    clear hlt hx hx2 hx3 pre hwi hwf hwm h2
    refine ⟨{ j : Nat // j ≤ 64 }, 1, fun j => ([(1, .ptr 0 ringS [] ringS), (3, .dat (.slice storedS) (.L (lst r (cap r)))), (6, .dat i64 (.I (countN (nz r) j.1))), (7, .dat i64 (.I j.1))], [(0, .box ringS (.dat ringS r))]), fun j => 64 - j.1,
      ⟨0, by omega⟩, ⟨[], rfl, ⟨rfl, rfl, rfl, rfl, trivial⟩, ⟨rfl, trivial⟩⟩, ?_⟩
    intro x
    obtain ⟨j, hj⟩ := x
    refine ⟨fun h3 => ⟨?_, fun h4 => ?_, fun h4 => ?_⟩, fun h3 => ⟨fun h5 => Bears.int ?_, fun h5 => Bears.int ?_⟩⟩
    all_goals replace h3 : ltB (j : Int) 64 = _ := h3
    all_goals simp at h3
    · show 0 ≤ (j : Int) ∧ (j : Int) < ((64 : Nat) : Int)
      omega
    · replace h4 : nz r j = true := h4
      have hle := countN_le (p := nz r) (n := j)
      have e : countN (nz r) (j + 1) = countN (nz r) j + 1 := by simp [countN, h4]
      refine ⟨⟨j + 1, by omega⟩, ⟨[], rfl, ⟨rfl, rfl, ?_, congrArg some (succ_i64 (n := j) (by omega)), trivial⟩, ⟨rfl, trivial⟩⟩, ?_⟩
      · show _ = some (HV.dat (.int .i64) (.I (countN (nz r) (j + 1) : Nat)))
        rw [e]
        exact congrArg some (succ_i64 (n := countN (nz r) j) (by omega))
      · show 64 - (j + 1) < 64 - j
        omega
    · replace h4 : nz r j = false := h4
      have e : countN (nz r) (j + 1) = countN (nz r) j := by simp [countN, h4]
      refine ⟨⟨j + 1, by omega⟩, ⟨[], rfl, ⟨rfl, rfl, ?_, congrArg some (succ_i64 (n := j) (by omega)), trivial⟩, ⟨rfl, trivial⟩⟩, ?_⟩
      · show _ = some (HV.dat (.int .i64) (.I (countN (nz r) (j + 1) : Nat)))
        rw [e]; rfl
      · show 64 - (j + 1) < 64 - j
        omega
    all_goals obtain rfl : j = 64 := by omega
    all_goals replace h5 : (((countN (nz r) 64 : Nat) : Int) != ((lst r (cap r)).length : Int)) = _ := h5
    all_goals rw [lst_len] at h5
    all_goals simp only [bne_iff_ne, ne_eq, bne_eq_false_iff_eq, Int.natCast_inj] at h5
    · have hs : stray r = true := by
        cases hs : stray r with
        | true => rfl
        | false => exact absurd ((stray_count hbad he).2 hs) h5
      show 3 = chk r
      simp [chk, hbad, firstErrN_zero he, hs]
    · have hs := (stray_count hbad he).1 h5
      show 0 = chk r
      simp [chk, hbad, firstErrN_zero he, hs]
end Go.Proofs.YtpfpgjkbnjnjnaaGreat.Rg
