/- Accounts of rings: changes. -/
import Derived.Test.YtmdhmjidmiemmaaWGb
namespace Go.Proofs.Ytmdhmjidmiemmaa.Rg
open Go Go.Vm
set_option linter.unusedSimpArgs false
set_option maxRecDepth 10000

/-! ### Put -/
def newD (r : D) (o t k v : Int) : D := .L [idD (r.nth 0).int (r.nth 3).int, .I o, .I t, .I k, .I v]
def putE (r : D) (o t k v : Int) : Int :=
  if chk r ≠ 0 then chk r
  else if evF (r.nth 0).int (r.nth 3).int (newD r o t k v) (bef r (cap r)) ≠ 0 then evF (r.nth 0).int (r.nth 3).int (newD r o t k v) (bef r (cap r))
  else if ((cap r : Int) == (r.nth 1).int || ltB 1099511627776 (r.nth 3).int) then 6 else 0
def putD (r x : D) : D := D.puts ringS (D.puts ringS r [.fld 4, .idx (placeI (r.nth 1).int (r.nth 3).int).toNat] x) [.fld 3] (.I ((r.nth 3).int + 1))
def putR (r : D) (o t k v : Int) : D := if putE r o t k v ≠ 0 then D0 ringS else putD r (newD r o t k v)
def sPut : Sum := ⟨[ringS, u64, u64, i64, i64], fun _ => none, fun
  | [r, o, t, k, v] => .tup [.dat ringS (putR r o.int t.int k.int v.int), .dat i64 (.I (putE r o.int t.int k.int v.int))]
  | _ => .und⟩
theorem lenI_eq {r : D} (h : badR r = false) : lenI r = cap r := by
  have hb := badR_false h
  obtain ⟨hc1, hc, hc2⟩ := cap_le h
  unfold lenI
  rw [wrap_sub hb.2.2.1 hb.2.2.2.1 hb.2.2.2.2.1, wrap_i64 (by omega) (by omega), hc]
theorem bef_cap {r : D} (h : badR r = false) (hn : 0 < cap r) : bef r (cap r) = (r.nth 4).nth (placeI (r.nth 1).int ((r.nth 3).int - 1)).toNat := by
  have hb := badR_false h
  obtain ⟨hc1, hc, hc2⟩ := cap_le h
  obtain ⟨n, hn'⟩ : ∃ n, cap r = n + 1 := ⟨cap r - 1, by omega⟩
  rw [hn']
  simp only [bef, evAt, pl]
  congr 2
  rw [hn'] at hc
  congr 1
  omega
theorem put_tail {r : D} (o t k v : Int) (h1 : chk r = 0) (h3 : evF (r.nth 0).int (r.nth 3).int (newD r o t k v) (bef r (cap r)) = 0) (h4 : ((cap r : Int) == (r.nth 1).int || ltB 1099511627776 (r.nth 3).int) = false) :
    putE r o t k v = 0 ∧ IntKind.u64.wrap ((r.nth 3).int + 1) = (r.nth 3).int + 1 := by
  have hb := badR_false (chk_bad h1)
  refine ⟨?_, wrap_u64 (by omega) (by omega)⟩
  simp only [putE]
  rw [if_neg (by simp [h1]), if_neg (by simp [h3]), h4]
  simp
theorem put_err {r : D} (o t k v : Int) (h1 : chk r = 0) (h3 : (evF (r.nth 0).int (r.nth 3).int (newD r o t k v) (bef r (cap r)) != 0) = true) :
    Same ringS (D0 ringS) (putR r o t k v) ∧ evF (r.nth 0).int (r.nth 3).int (newD r o t k v) (bef r (cap r)) = putE r o t k v := by
  simp at h3
  have e : putE r o t k v = evF (r.nth 0).int (r.nth 3).int (newD r o t k v) (bef r (cap r)) := by
    simp only [putE]
    rw [if_neg (by simp [h1]), if_pos h3]
  refine ⟨?_, e.symm⟩
  simp only [putR]
  rw [if_pos (by rw [e]; exact h3)]; exact Same.rfl
theorem put_full {r : D} (o t k v : Int) (h1 : chk r = 0) (h3 : (evF (r.nth 0).int (r.nth 3).int (newD r o t k v) (bef r (cap r)) != 0) = false) (h4 : ((cap r : Int) == (r.nth 1).int || ltB 1099511627776 (r.nth 3).int) = true) :
    Same ringS (D0 ringS) (putR r o t k v) ∧ 6 = putE r o t k v := by
  simp only [bne_eq_false_iff_eq] at h3
  have e : putE r o t k v = 6 := by
    simp only [putE]
    rw [if_neg (by simp [h1]), if_neg (by simp [h3]), h4]
    rfl
  refine ⟨?_, e.symm⟩
  simp only [putR]
  rw [if_pos (by rw [e]; decide)]; exact Same.rfl
theorem put_ok {r : D} (o t k v : Int) (h1 : chk r = 0) (h3 : (evF (r.nth 0).int (r.nth 3).int (newD r o t k v) (bef r (cap r)) != 0) = false) (h4 : ((cap r : Int) == (r.nth 1).int || ltB 1099511627776 (r.nth 3).int) = false) :
    putR r o t k v = putD r (newD r o t k v) ∧ putE r o t k v = 0 := by
  simp only [bne_eq_false_iff_eq] at h3
  have e := (put_tail o t k v h1 h3 h4).1
  exact ⟨by simp [putR, e], e⟩
/-! ### Evict -/
def evR (r : D) : Nat → D
  | 0 => r
  | i + 1 => D.puts ringS (D.puts ringS (evR r i) [.fld 4, .idx (pl r i)] (D0 storedS)) [.fld 2] (.I ((r.nth 2).int + i + 1))
def oldB (r : D) (now hor : Int) (i : Nat) : Bool := leB (IntKind.u64.wrap (((evAt r i).nth 2).int + hor)) now
def cntUp (p : Nat → Bool) : Nat → Nat → Nat
  | 0, _ => 0
  | m + 1, i => if p i then cntUp p m (i + 1) + 1 else 0
theorem cntUp_eq {p : Nat → Bool} : ∀ {m i n : Nat}, n ≤ m → (∀ k, k < n → p (i + k) = true) → (n = m ∨ p (i + n) = false) → cntUp p m i = n
  | 0, _, n, h1, _, _ => by simp [cntUp]; omega
  | m + 1, i, 0, _, _, h3 => by
    rcases h3 with h3 | h3
    · omega
    · simp at h3; simp [cntUp, h3]
  | m + 1, i, n + 1, h1, h2, h3 => by
    have a := h2 0 (by omega)
    simp at a
    have := cntUp_eq (p := p) (m := m) (i := i + 1) (n := n) (by omega) (fun k hk => by have := h2 (k + 1) (by omega); rw [show i + (k + 1) = i + 1 + k by omega] at this; exact this)
      (by rcases h3 with h3 | h3
          · left; omega
          · right; rw [show i + (n + 1) = i + 1 + n by omega] at h3; exact h3)
    simp [cntUp, a, this]
def evN (r : D) (now hor : Int) : Nat := cntUp (oldB r now hor) (cap r) 0
def evE (r : D) (now hor : Int) : Int := if chk r ≠ 0 then chk r else if ltB 1099511627776 now || ltB hor 1 || ltB 10000 hor then 2 else 0
def sEvict : Sum := ⟨[ringS, u64, u64], fun _ => none, fun
  | [r, now, hor] => .tup [.dat ringS (if evE r now.int hor.int ≠ 0 then D0 ringS else evR r (evN r now.int hor.int)), .dat i64 (.I (if evE r now.int hor.int ≠ 0 then 0 else evN r now.int hor.int)), .dat i64 (.I (evE r now.int hor.int))]
  | _ => .und⟩
theorem evR_0 (r : D) : ∀ i, ((evR r i).nth 0) = r.nth 0 ∧ ((evR r i).nth 1) = r.nth 1 ∧ ((evR r i).nth 3) = r.nth 3 ∧ ((evR r i).nth 2).int = (r.nth 2).int + i
  | 0 => by simp [evR]
  | i + 1 => by
    obtain ⟨h0, h1, h3, _⟩ := evR_0 r i
    refine ⟨?_, ?_, ?_, ?_⟩
    · exact h0
    · exact h1
    · exact h3
    · show (r.nth 2).int + i + 1 = (r.nth 2).int + ((i + 1 : Nat) : Int)
      omega
theorem evR_4 (r : D) (i j : Nat) : ((evR r (i + 1)).nth 4).nth j = if j = pl r i then D0 storedS else ((evR r i).nth 4).nth j := by
  show (D.puts (.arr 64 storedS) ((evR r i).nth 4) [.idx (pl r i)] (D0 storedS)).nth j = _
  simp [D.puts_idx]
theorem pl_eq {r : D} (h : badR r = false) {i : Nat} (hi : i ≤ cap r) : (pl r i : Int) = ((r.nth 2).int + i - 1) % (r.nth 1).int := by
  have hb := badR_false h
  obtain ⟨hc1, hc, hc2⟩ := cap_le h
  have hp := placeI_lt (no := (r.nth 2).int + i) hb.1 hb.2.1 (by omega) (by omega)
  unfold pl
  rw [← placeI_eq hb.1 hb.2.1 (by omega) (by omega)]
  omega
theorem pl_inj {r : D} (h : badR r = false) {i j : Nat} (hi : i < cap r) (hj : j < cap r) (e : pl r i = pl r j) : i = j := by
  have hb := badR_false h
  obtain ⟨hc1, hc, hc2⟩ := cap_le h
  have a := pl_eq h (i := i) (by omega)
  have b := pl_eq h (i := j) (by omega)
  rw [e, b] at a
  have c := Int.emod_emod_of_dvd ((r.nth 2).int + i - 1) (Int.dvd_refl (r.nth 1).int)
  have d : (((r.nth 2).int + j - 1) - ((r.nth 2).int + i - 1)) % (r.nth 1).int = 0 := Int.emod_eq_zero_of_dvd (Int.dvd_of_emod_eq_zero (by rw [Int.sub_emod, a]; simp))
  have d2 : ((j : Int) - i) % (r.nth 1).int = 0 := by
    have e2 : ((r.nth 2).int + j - 1) - ((r.nth 2).int + i - 1) = (j : Int) - i := by omega
    rw [e2] at d; exact d
  obtain ⟨q, hq⟩ := Int.dvd_of_emod_eq_zero d2
  have hlt : (j : Int) - i < (r.nth 1).int ∧ -(r.nth 1).int < (j : Int) - i := by omega
  have hq0 : q = 0 := by
    rcases Int.lt_trichotomy q 0 with hq1 | hq1 | hq1
    · have := Int.mul_le_mul_of_nonneg_left (show q ≤ -1 by omega) (show 0 ≤ (r.nth 1).int by omega)
      omega
    · exact hq1
    · have := Int.mul_le_mul_of_nonneg_left (show 1 ≤ q by omega) (show 0 ≤ (r.nth 1).int by omega)
      omega
  rw [hq0] at hq
  omega
theorem evR_at {r : D} (h : badR r = false) {i : Nat} (hi : i < cap r) : ∀ k, k ≤ i → ((evR r k).nth 4).nth (pl r i) = evAt r i
  | 0, _ => rfl
  | k + 1, hk => by
    rw [evR_4, if_neg (fun e => by have := pl_inj h hi (show k < cap r by omega) e; omega)]
    exact evR_at h hi k (by omega)
def cEvict : Ctx := ⟨tab, [], [(64, sCheck), (86, sPlace)], [], keep, []⟩
end Go.Proofs.Ytmdhmjidmiemmaa.Rg
