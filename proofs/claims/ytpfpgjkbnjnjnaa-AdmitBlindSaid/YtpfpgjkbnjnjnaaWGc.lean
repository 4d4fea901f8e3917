/- Accounts of rings: changes. -/
import Derived.Test.YtpfpgjkbnjnjnaaWGb
namespace Go.Proofs.Ytpfpgjkbnjnjnaa.Rg
open Go Go.Vm
set_option linter.unusedSimpArgs false
set_option maxRecDepth 10000

/-! ### Put -/
def newD (r : D) (o t k v : Int) : D := .L [idD (r.nth 0).int (r.nth 3).int, .I o, .I t, .I k, .I v]
def putE (r : D) (o t k v : Int) : Int :=
  if chk r ≠ 0 then chk r
  else if evF (r.nth 0).int (r.nth 3).int (newD r o t k v) (bef r (cap r)) ≠ 0 then evF (r.nth 0).int (r.nth 3).int (newD r o t k v) (bef r (cap r))
  else if ((cap r : Int) == (r.nth 1).int || ltB 1099511627776 (r.nth 3).int) then 6 else 0
def putD (r x : D) : D := D.puts ringS (D.puts ringS r [.fld 4, .idx (placeI (r.nth 1).int (r.nth 3).int).toNat] x) [.fld 3] (.I ((r.nth 3).int + 1))
def putR (r : D) (o t k v : Int) : D := if putE r o t k v ≠ 0 then D0 ringS else putD r (newD r o t k v)
def sPut : Sum := ⟨[ringS, u64, u64, i64, i64], fun _ => none, fun
  | [r, o, t, k, v] => .tup [.dat ringS (putR r o.int t.int k.int v.int), .dat i64 (.I (putE r o.int t.int k.int v.int))]
  | _ => .und⟩
theorem lenI_eq {r : D} (h : badR r = false) : lenI r = cap r := by
  have hb := badR_false h
  obtain ⟨hc1, hc, hc2⟩ := cap_le h
  unfold lenI
  rw [wrap_sub hb.2.2.1 hb.2.2.2.1 hb.2.2.2.2.1, wrap_i64 (by omega) (by omega), hc]
theorem bef_cap {r : D} (h : badR r = false) (hn : 0 < cap r) : bef r (cap r) = (r.nth 4).nth (placeI (r.nth 1).int ((r.nth 3).int - 1)).toNat := by
  have hb := badR_false h
  obtain ⟨hc1, hc, hc2⟩ := cap_le h
  obtain ⟨n, hn'⟩ : ∃ n, cap r = n + 1 := ⟨cap r - 1, by omega⟩
  rw [hn']
  simp only [bef, evAt, pl]
  congr 2
  rw [hn'] at hc
  congr 1
  omega
def cPut : Ctx := ⟨tab, [], [(92, sLen), (79, sPlace), (86, sEvent)], [], keep, []⟩
theorem put_tail {r : D} (o t k v : Int) (h1 : chk r = 0) (h3 : evF (r.nth 0).int (r.nth 3).int (newD r o t k v) (bef r (cap r)) = 0) (h4 : ((cap r : Int) == (r.nth 1).int || ltB 1099511627776 (r.nth 3).int) = false) :
    putE r o t k v = 0 ∧ IntKind.u64.wrap ((r.nth 3).int + 1) = (r.nth 3).int + 1 := by
  have hb := badR_false (chk_bad h1)
  refine ⟨?_, wrap_u64 (by omega) (by omega)⟩
  simp only [putE]
  rw [if_neg (by simp [h1]), if_neg (by simp [h3]), h4]
  simp
theorem put_err {r : D} (o t k v : Int) (h1 : chk r = 0) (h3 : (evF (r.nth 0).int (r.nth 3).int (newD r o t k v) (bef r (cap r)) != 0) = true) :
    Same ringS (D0 ringS) (putR r o t k v) ∧ evF (r.nth 0).int (r.nth 3).int (newD r o t k v) (bef r (cap r)) = putE r o t k v := by
  simp at h3
  have e : putE r o t k v = evF (r.nth 0).int (r.nth 3).int (newD r o t k v) (bef r (cap r)) := by
    simp only [putE]
    rw [if_neg (by simp [h1]), if_pos h3]
  refine ⟨?_, e.symm⟩
  simp only [putR]
  rw [if_pos (by rw [e]; exact h3)]; exact Same.rfl
theorem put_full {r : D} (o t k v : Int) (h1 : chk r = 0) (h3 : (evF (r.nth 0).int (r.nth 3).int (newD r o t k v) (bef r (cap r)) != 0) = false) (h4 : ((cap r : Int) == (r.nth 1).int || ltB 1099511627776 (r.nth 3).int) = true) :
    Same ringS (D0 ringS) (putR r o t k v) ∧ 6 = putE r o t k v := by
  simp only [bne_eq_false_iff_eq] at h3
  have e : putE r o t k v = 6 := by
    simp only [putE]
    rw [if_neg (by simp [h1]), if_neg (by simp [h3]), h4]
    rfl
  refine ⟨?_, e.symm⟩
  simp only [putR]
  rw [if_pos (by rw [e]; decide)]; exact Same.rfl
theorem put_ok {r : D} (o t k v : Int) (h1 : chk r = 0) (h3 : (evF (r.nth 0).int (r.nth 3).int (newD r o t k v) (bef r (cap r)) != 0) = false) (h4 : ((cap r : Int) == (r.nth 1).int || ltB 1099511627776 (r.nth 3).int) = false) :
    putR r o t k v = putD r (newD r o t k v) ∧ putE r o t k v = 0 := by
  simp only [bne_eq_false_iff_eq] at h3
  have e := (put_tail o t k v h1 h3 h4).1
  exact ⟨by simp [putR, e], e⟩
theorem put_fun : FunOK cPut 100 Try.f72 sPut := fun r _ o _ t _ k _ v _ _ => by
  refine ⟨fun h1 => ⟨Bears.same ?_, Bears.int ?_, trivial⟩, fun h1 => ?_⟩
  all_goals replace h1 : (chk r != 0) = _ := h1
  all_goals simp at h1
  · have e : putE r o.int t.int k.int v.int ≠ 0 := by simp [putE, h1]
    show Same ringS (D0 ringS) (putR r o.int t.int k.int v.int)
    simp only [putR, if_pos e]; exact Same.rfl
  · show chk r = putE r o.int t.int k.int v.int
    simp [putE, h1]
  have hb := badR_false (chk_bad h1)
  obtain ⟨hc1, hc, hc2⟩ := cap_le (chk_bad h1)
  have hl := lenI_eq (chk_bad h1)
  have hw : IntKind.u64.wrap (r.nth 1).int = (r.nth 1).int := wrap_u64 (by omega) (by omega)
  have hw1 : IntKind.u64.wrap ((r.nth 3).int - 1) = (r.nth 3).int - 1 := wrap_u64 (by omega) (by omega)
  have hw2 : IntKind.u64.wrap ((r.nth 3).int + 1) = (r.nth 3).int + 1 := wrap_u64 (by omega) (by omega)
  have hp1 := fun h => placeI_lt (no := (r.nth 3).int - 1) hb.1 hb.2.1 h (by omega)
  have hp2 := placeI_lt (no := (r.nth 3).int) hb.1 hb.2.1 (by omega) (by omega)
  have hlen : (if chk r ≠ 0 then 0 else lenI r) = (cap r : Int) := by rw [if_neg (by simp [h1]), hl]
  have pre1 : IntKind.u64.wrap (r.nth 1).int ≠ 0 := by omega
  have pre2 : 0 ≤ placeI (r.nth 1).int (r.nth 3).int ∧ placeI (r.nth 1).int (r.nth 3).int < ((64 : Nat) : Int) := by omega
  have fin : ∀ d : D, d = putD r (newD r o.int t.int k.int v.int) → putR r o.int t.int k.int v.int = putD r (newD r o.int t.int k.int v.int) → Same ringS d (putR r o.int t.int k.int v.int) := fun d e1 e2 => by rw [e1, e2]; exact Same.rfl
  have fin2 : D.puts ringS (D.puts ringS r [.fld 4, .idx (placeI (r.nth 1).int (r.nth 3).int).toNat] (newD r o.int t.int k.int v.int)) [.fld 3] (.I (IntKind.u64.wrap ((r.nth 3).int + 1))) = putD r (newD r o.int t.int k.int v.int) := by rw [hw2]; rfl
  refine ⟨fun h2 => ⟨pre1, ?_, fun h3 => ?_, fun h3 => ⟨fun h4 => ?_, fun h4 => ⟨pre1, pre2, by kernel_rfl, ?_⟩⟩⟩, fun h2 => ⟨fun h3 => ?_, fun h3 => ⟨fun h4 => ?_, fun h4 => ⟨pre1, pre2, by kernel_rfl, ?_⟩⟩⟩⟩
  all_goals replace h2 : ltB 0 (if chk r ≠ 0 then 0 else lenI r) = _ := h2
  all_goals rw [hlen] at h2
  all_goals simp at h2
  · show 0 ≤ placeI (r.nth 1).int (IntKind.u64.wrap ((r.nth 3).int - 1)) ∧ placeI (r.nth 1).int (IntKind.u64.wrap ((r.nth 3).int - 1)) < ((64 : Nat) : Int)
    have := hp1 (by omega)
    rw [hw1]; omega
  · have hbf := bef_cap (chk_bad h1) h2
    replace h3 : (evF (r.nth 0).int (r.nth 3).int (newD r o.int t.int k.int v.int) ((r.nth 4).nth (placeI (r.nth 1).int (IntKind.u64.wrap ((r.nth 3).int - 1))).toNat) != 0) = true := h3
    rw [hw1, ← hbf] at h3
    have := put_err o.int t.int k.int v.int h1 h3
    refine ⟨Bears.same this.1, Bears.int ?_, trivial⟩
    show evF (r.nth 0).int (r.nth 3).int (newD r o.int t.int k.int v.int) ((r.nth 4).nth (placeI (r.nth 1).int (IntKind.u64.wrap ((r.nth 3).int - 1))).toNat) = _
    rw [hw1, ← hbf]; exact this.2
  · have hbf := bef_cap (chk_bad h1) h2
    replace h3 : (evF (r.nth 0).int (r.nth 3).int (newD r o.int t.int k.int v.int) ((r.nth 4).nth (placeI (r.nth 1).int (IntKind.u64.wrap ((r.nth 3).int - 1))).toNat) != 0) = false := h3
    rw [hw1, ← hbf] at h3
    replace h4 : ((if chk r ≠ 0 then 0 else lenI r) == (r.nth 1).int || ltB 1099511627776 (r.nth 3).int) = true := h4
    rw [hlen] at h4
    have := put_full o.int t.int k.int v.int h1 h3 h4
    exact ⟨Bears.same this.1, Bears.int this.2, trivial⟩
  · have hbf := bef_cap (chk_bad h1) h2
    replace h3 : (evF (r.nth 0).int (r.nth 3).int (newD r o.int t.int k.int v.int) ((r.nth 4).nth (placeI (r.nth 1).int (IntKind.u64.wrap ((r.nth 3).int - 1))).toNat) != 0) = false := h3
    rw [hw1, ← hbf] at h3
    replace h4 : ((if chk r ≠ 0 then 0 else lenI r) == (r.nth 1).int || ltB 1099511627776 (r.nth 3).int) = false := h4
    rw [hlen] at h4
    have := put_ok o.int t.int k.int v.int h1 h3 h4
    exact ⟨Bears.same (fin _ fin2 this.1), Bears.int this.2.symm, trivial⟩
  · have h0 : cap r = 0 := by omega
    replace h3 : (evF (r.nth 0).int (r.nth 3).int (newD r o.int t.int k.int v.int) (bef r 0) != 0) = true := h3
    have hb0 : bef r 0 = bef r (cap r) := by rw [h0]
    rw [hb0] at h3
    have := put_err o.int t.int k.int v.int h1 h3
    refine ⟨Bears.same this.1, Bears.int ?_, trivial⟩
    show evF (r.nth 0).int (r.nth 3).int (newD r o.int t.int k.int v.int) (bef r 0) = putE r o.int t.int k.int v.int
    rw [hb0]; exact this.2
  · have h0 : cap r = 0 := by omega
    replace h3 : (evF (r.nth 0).int (r.nth 3).int (newD r o.int t.int k.int v.int) (bef r 0) != 0) = false := h3
    have hb0 : bef r 0 = bef r (cap r) := by rw [h0]
    rw [hb0] at h3
    replace h4 : ((if chk r ≠ 0 then 0 else lenI r) == (r.nth 1).int || ltB 1099511627776 (r.nth 3).int) = true := h4
    rw [hlen] at h4
    have := put_full o.int t.int k.int v.int h1 h3 h4
    exact ⟨Bears.same this.1, Bears.int this.2, trivial⟩
  · have h0 : cap r = 0 := by omega
    replace h3 : (evF (r.nth 0).int (r.nth 3).int (newD r o.int t.int k.int v.int) (bef r 0) != 0) = false := h3
    have hb0 : bef r 0 = bef r (cap r) := by rw [h0]
    rw [hb0] at h3
    replace h4 : ((if chk r ≠ 0 then 0 else lenI r) == (r.nth 1).int || ltB 1099511627776 (r.nth 3).int) = false := h4
    rw [hlen] at h4
    have := put_ok o.int t.int k.int v.int h1 h3 h4
    exact ⟨Bears.same (fin _ fin2 this.1), Bears.int this.2.symm, trivial⟩

/-! ### Evict -/
def evR (r : D) : Nat → D
  | 0 => r
  | i + 1 => D.puts ringS (D.puts ringS (evR r i) [.fld 4, .idx (pl r i)] (D0 storedS)) [.fld 2] (.I ((r.nth 2).int + i + 1))
def oldB (r : D) (now hor : Int) (i : Nat) : Bool := leB (IntKind.u64.wrap (((evAt r i).nth 2).int + hor)) now
def cntUp (p : Nat → Bool) : Nat → Nat → Nat
  | 0, _ => 0
  | m + 1, i => if p i then cntUp p m (i + 1) + 1 else 0
theorem cntUp_eq {p : Nat → Bool} : ∀ {m i n : Nat}, n ≤ m → (∀ k, k < n → p (i + k) = true) → (n = m ∨ p (i + n) = false) → cntUp p m i = n
  | 0, _, n, h1, _, _ => by simp [cntUp]; omega
  | m + 1, i, 0, _, _, h3 => by
    rcases h3 with h3 | h3
    · omega
    · simp at h3; simp [cntUp, h3]
  | m + 1, i, n + 1, h1, h2, h3 => by
    have a := h2 0 (by omega)
    simp at a
    have := cntUp_eq (p := p) (m := m) (i := i + 1) (n := n) (by omega) (fun k hk => by have := h2 (k + 1) (by omega); rw [show i + (k + 1) = i + 1 + k by omega] at this; exact this)
      (by rcases h3 with h3 | h3
          · left; omega
          · right; rw [show i + (n + 1) = i + 1 + n by omega] at h3; exact h3)
    simp [cntUp, a, this]
def evN (r : D) (now hor : Int) : Nat := cntUp (oldB r now hor) (cap r) 0
def evE (r : D) (now hor : Int) : Int := if chk r ≠ 0 then chk r else if ltB 1099511627776 now || ltB hor 1 || ltB 10000 hor then 2 else 0
def sEvict : Sum := ⟨[ringS, u64, u64], fun _ => none, fun
  | [r, now, hor] => .tup [.dat ringS (if evE r now.int hor.int ≠ 0 then D0 ringS else evR r (evN r now.int hor.int)), .dat i64 (.I (if evE r now.int hor.int ≠ 0 then 0 else evN r now.int hor.int)), .dat i64 (.I (evE r now.int hor.int))]
  | _ => .und⟩
theorem evR_0 (r : D) : ∀ i, ((evR r i).nth 0) = r.nth 0 ∧ ((evR r i).nth 1) = r.nth 1 ∧ ((evR r i).nth 3) = r.nth 3 ∧ ((evR r i).nth 2).int = (r.nth 2).int + i
  | 0 => by simp [evR]
  | i + 1 => by
    obtain ⟨h0, h1, h3, _⟩ := evR_0 r i
    refine ⟨?_, ?_, ?_, ?_⟩
    · exact h0
    · exact h1
    · exact h3
    · show (r.nth 2).int + i + 1 = (r.nth 2).int + ((i + 1 : Nat) : Int)
      omega
theorem evR_4 (r : D) (i j : Nat) : ((evR r (i + 1)).nth 4).nth j = if j = pl r i then D0 storedS else ((evR r i).nth 4).nth j := by
  show (D.puts (.arr 64 storedS) ((evR r i).nth 4) [.idx (pl r i)] (D0 storedS)).nth j = _
  simp [D.puts_idx]
theorem pl_eq {r : D} (h : badR r = false) {i : Nat} (hi : i ≤ cap r) : (pl r i : Int) = ((r.nth 2).int + i - 1) % (r.nth 1).int := by
  have hb := badR_false h
  obtain ⟨hc1, hc, hc2⟩ := cap_le h
  have hp := placeI_lt (no := (r.nth 2).int + i) hb.1 hb.2.1 (by omega) (by omega)
  unfold pl
  rw [← placeI_eq hb.1 hb.2.1 (by omega) (by omega)]
  omega
theorem pl_inj {r : D} (h : badR r = false) {i j : Nat} (hi : i < cap r) (hj : j < cap r) (e : pl r i = pl r j) : i = j := by
  have hb := badR_false h
  obtain ⟨hc1, hc, hc2⟩ := cap_le h
  have a := pl_eq h (i := i) (by omega)
  have b := pl_eq h (i := j) (by omega)
  rw [e, b] at a
  have c := Int.emod_emod_of_dvd ((r.nth 2).int + i - 1) (Int.dvd_refl (r.nth 1).int)
  have d : (((r.nth 2).int + j - 1) - ((r.nth 2).int + i - 1)) % (r.nth 1).int = 0 := Int.emod_eq_zero_of_dvd (Int.dvd_of_emod_eq_zero (by rw [Int.sub_emod, a]; simp))
  have d2 : ((j : Int) - i) % (r.nth 1).int = 0 := by
    have e2 : ((r.nth 2).int + j - 1) - ((r.nth 2).int + i - 1) = (j : Int) - i := by omega
    rw [e2] at d; exact d
  obtain ⟨q, hq⟩ := Int.dvd_of_emod_eq_zero d2
  have hlt : (j : Int) - i < (r.nth 1).int ∧ -(r.nth 1).int < (j : Int) - i := by omega
  have hq0 : q = 0 := by
    rcases Int.lt_trichotomy q 0 with hq1 | hq1 | hq1
    · have := Int.mul_le_mul_of_nonneg_left (show q ≤ -1 by omega) (show 0 ≤ (r.nth 1).int by omega)
      omega
    · exact hq1
    · have := Int.mul_le_mul_of_nonneg_left (show 1 ≤ q by omega) (show 0 ≤ (r.nth 1).int by omega)
      omega
  rw [hq0] at hq
  omega
theorem evR_at {r : D} (h : badR r = false) {i : Nat} (hi : i < cap r) : ∀ k, k ≤ i → ((evR r k).nth 4).nth (pl r i) = evAt r i
  | 0, _ => rfl
  | k + 1, hk => by
    rw [evR_4, if_neg (fun e => by have := pl_inj h hi (show k < cap r by omega) e; omega)]
    exact evR_at h hi k (by omega)
def cEvict : Ctx := ⟨tab, [], [(63, sCheck), (79, sPlace)], [], keep, []⟩
theorem evict_fun : FunOK cEvict 100 Try.f55 sEvict := fun r _ now _ hor _ _ => by
  refine ⟨fun h1 => ⟨Bears.same ?_, Bears.int ?_, Bears.int ?_, trivial⟩, fun h1 => ⟨fun h2 => ⟨Bears.same ?_, Bears.int ?_, Bears.int ?_, trivial⟩, fun h2 => ?_⟩⟩
  all_goals replace h1 : (chk r != 0) = _ := h1
  all_goals simp at h1
  · have e : evE r now.int hor.int ≠ 0 := by simp [evE, h1]
    rw [if_pos e]; exact Same.rfl
  · have e : evE r now.int hor.int ≠ 0 := by simp [evE, h1]
    rw [if_pos e]; rfl
  · show chk r = evE r now.int hor.int
    simp [evE, h1]
  all_goals replace h2 : (ltB 1099511627776 now.int || ltB hor.int 1 || ltB 10000 hor.int) = _ := h2
  · have e : evE r now.int hor.int ≠ 0 := by simp only [evE, h1, h2]; simp
    rw [if_pos e]; exact Same.rfl
  · have e : evE r now.int hor.int ≠ 0 := by simp only [evE, h1, h2]; simp
    rw [if_pos e]; rfl
  · show 2 = evE r now.int hor.int
    simp only [evE, h1, h2]; simp
  have hE : evE r now.int hor.int = 0 := by simp only [evE, h1, h2]; simp
  have hbad := chk_bad h1
  have hb := badR_false hbad
  obtain ⟨hc1, hc, hc2⟩ := cap_le hbad
  have hw : IntKind.u64.wrap (r.nth 1).int = (r.nth 1).int := wrap_u64 (by omega) (by omega)
  refine ⟨{ i : Nat // i ≤ cap r ∧ ∀ k, k < i → oldB r now.int hor.int k = true }, 2, fun i => ([(1, .dat u64 (.I now.int)), (2, .dat u64 (.I hor.int)), (3, .ptr 0 ringS [] ringS), (6, .ptr 1 ringS [] ringS), (10, .dat i64 (.I i.1))],
    [(1, .box ringS (.dat ringS (D0 ringS))), (0, .box ringS (.dat ringS (evR r i.1)))]), fun i => cap r - i.1, ⟨0, by omega, fun k h => by omega⟩, ⟨[], rfl, ⟨rfl, rfl, rfl, rfl, rfl, trivial⟩, ⟨rfl, rfl, trivial⟩⟩, ?_⟩
  intro x
  obtain ⟨i, hi, ho⟩ := x
  obtain ⟨e0, e1, e3, e2⟩ := evR_0 r i
  have hp := placeI_lt (no := (r.nth 2).int + i) hb.1 hb.2.1 (by omega) (by omega)
  have hpl : placeI ((evR r i).nth 1).int ((evR r i).nth 2).int = placeI (r.nth 1).int ((r.nth 2).int + i) := by rw [e1, e2]
  have pre1 : IntKind.u64.wrap ((evR r i).nth 1).int ≠ 0 := by rw [e1]; omega
  have pre2 : 0 ≤ placeI ((evR r i).nth 1).int ((evR r i).nth 2).int ∧ placeI ((evR r i).nth 1).int ((evR r i).nth 2).int < ((64 : Nat) : Int) := by rw [hpl]; omega
  have hcount : (ltB ((r.nth 2).int + i) (r.nth 3).int && leB (IntKind.u64.wrap (((((evR r i).nth 4).nth (placeI (r.nth 1).int ((r.nth 2).int + i)).toNat).nth 2).int + hor.int)) now.int) = false → evN r now.int hor.int = i := by
    intro h3
    refine cntUp_eq hi (fun k hk => by rw [Nat.zero_add]; exact ho k hk) ?_
    by_cases hlt : i = cap r
    · exact .inl hlt
    · right
      rw [Nat.zero_add]
      have hlt : i < cap r := by omega
      have hat := evR_at hbad hlt i (Nat.le_refl i)
      have h5 : ltB ((r.nth 2).int + i) (r.nth 3).int = true := by simp; omega
      rw [h5, Bool.true_and] at h3
      unfold oldB; rw [← hat]; exact h3
  refine ⟨fun _ => pre1, fun _ => pre2, fun h3 => ⟨pre1, pre2, ?_⟩, fun h3 => ⟨Bears.same ?_, Bears.int ?_, Bears.int ?_, trivial⟩⟩
  all_goals replace h3 : (ltB ((evR r i).nth 2).int ((evR r i).nth 3).int && leB (IntKind.u64.wrap (((((evR r i).nth 4).nth (placeI ((evR r i).nth 1).int ((evR r i).nth 2).int).toNat).nth 2).int + hor.int)) now.int) = _ := h3
  all_goals rw [hpl, e2, e3] at h3
  · simp only [Bool.and_eq_true, ltB_true] at h3
    have hlt : i < cap r := by omega
    have hat := evR_at hbad hlt i (Nat.le_refl i)
    have h4 : oldB r now.int hor.int i = true := by
      unfold oldB; rw [← hat]; exact h3.2
    have hw4 : IntKind.u64.wrap (((evR r i).nth 2).int + 1) = (r.nth 2).int + i + 1 := by rw [e2, wrap_u64 (by omega) (by omega)]
    refine ⟨⟨i + 1, by omega, fun k hk => ?_⟩, ⟨[], rfl, ⟨rfl, rfl, rfl, rfl, congrArg some (succ_i64 (n := i) (by omega)), trivial⟩, ⟨rfl, ?_, trivial⟩⟩, ?_⟩
    · rcases Nat.lt_or_eq_of_le (Nat.le_of_lt_succ hk) with h | rfl
      · exact ho k h
      · exact h4
    · refine congrArg (fun d => some (VO.box ringS (.dat ringS d))) ?_
      show D.puts ringS (D.puts ringS (evR r i) [.fld 4, .idx (placeI ((evR r i).nth 1).int ((evR r i).nth 2).int).toNat] (D0 storedS)) [.fld 2] (.I (IntKind.u64.wrap (((evR r i).nth 2).int + 1))) = evR r (i + 1)
      rw [hpl, hw4]; rfl
    · show cap r - (i + 1) < cap r - i
      omega
  · rw [hE, hcount h3]
    exact Same.rfl
  · rw [hE, hcount h3]; rfl
  · rw [hE]; rfl
end Go.Proofs.Ytpfpgjkbnjnjnaa.Rg
