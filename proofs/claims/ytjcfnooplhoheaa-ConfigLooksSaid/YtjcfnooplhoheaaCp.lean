/- Accounts of quotas that are made of numbers, and their laws. -/
import Derived.Test.YtjcfnooplhoheaaCo
namespace Go.Proofs.Ytjcfnooplhoheaa
open Go Go.Vm
set_option linter.unusedSimpArgs false
set_option maxRecDepth 10000
def cMadeQ : Ctx := ⟨tab, refs, [(66, sCfg), (27, sQNew), (29, sUse), (50, sLabels), (49, sMod), (34, sQk)], [], keep, mps⟩
/-- What becomes of rates by a use that is let in. -/
def stepU (c r : D) (L : Int) : D := if useX c r L = 0 then useU c r L else r
def numL (l : List D) (i : Nat) : Int := (labs5.getD (modI (l.getD i .Z).int 5).toNat .Z).int
def madeR (c : D) (l : List D) : Nat → D
  | 0 => newU c
  | n + 1 => stepU c (madeR c l n) (numL l n)
def sMadeQ : Sum := ⟨[i64, .slice i64], fun _ => none, fun
  | [n, l] => .tup [.dat configS (cfgD (cfgK n.int)), .dat ratesS (madeR (cfgD (cfgK n.int)) l.list (min l.list.length 20)), .dat .bool (.B true)]
  | _ => .und⟩
theorem useX_in {c r : D} (h : qk c r = 0) (L : Int) : useX c r L = 0 ∨ useX c r L = 14 ∨ useX c r L = 15 := by
  have hb : bothX c r L = if fl c L < nC c then 0 else 14 := by rw [bothX, if_neg (by simp [h]), qX, if_neg (by simp [qk_0 h])]
  rw [useX, hb]
  by_cases h1 : fl c L < nC c
  · simp only [h1, if_true]
    by_cases h2 : leftN c r L = 0
    · simp [h2]
    · simp [h2]
  · simp [h1]
theorem useX_both {c r : D} {L : Int} (h : useX c r L = 0) : bothX c r L = 0 ∧ leftN c r L ≠ 0 := by
  by_cases h1 : bothX c r L = 0
  · refine ⟨h1, fun h2 => ?_⟩
    rw [useX, if_neg (by simp [h1]), if_pos h2] at h; cases h
  · rw [useX, if_pos h1] at h; exact absurd h h1
theorem useU_rl {c r : D} {L : Int} (h : useX c r L = 0) : rl (useU c r L) = (rl r).set (fl c L) (.I (usedAt r (fl c L) + 1)) := by
  rw [useU, if_neg (by simp [h])]; rfl
theorem useU_at {c r : D} {L : Int} (h : useX c r L = 0) (k : Nat) : usedAt (useU c r L) k = if k = fl c L then usedAt r k + 1 else usedAt r k := by
  have hb := bothX_0 (useX_both h).1
  rw [usedAt, useU_rl h]
  by_cases e : k = fl c L
  · subst e
    rw [if_pos rfl]
    simp [List.getD_eq_getElem?_getD, show fl c L < (rl r).length from hb.2.2.1]
  · rw [if_neg e]
    simp [List.getD_eq_getElem?_getD, List.getElem?_set_ne (fun h => e h.symm), usedAt]
theorem useU_nU {c r : D} {L : Int} (h : useX c r L = 0) : nU (useU c r L) = nU r := by
  rw [nU, useU_rl h, List.length_set]; rfl
theorem qk_of {c r : D} (h : chE c = 0) (h1 : nU r = nC c) (h2 : ∀ k, k < nU r → rtBad c r k = false) : qk c r = 0 := by
  rw [qk, if_neg (by simp [h]), if_neg (by simp [h1]), if_neg]
  simp only [List.any_eq_true, List.mem_range, not_exists, not_and, Bool.not_eq_true]
  exact h2
theorem qk_at {c r : D} (h : qk c r = 0) {k : Nat} (hk : k < nC c) : 0 ≤ usedAt r k ∧ usedAt r k ≤ rateAt c k := by
  have h1 := (qk_ok h).2 k (by rw [(qk_ok h).1]; exact hk)
  simp only [rtBad, Bool.or_eq_false_iff, ltB_false] at h1
  exact h1
/-- One use more leaves rates right. -/
theorem useU_ok {c r : D} {L : Int} (h : useX c r L = 0) : qk c (useU c r L) = 0 := by
  obtain ⟨hb, hl⟩ := useX_both h
  obtain ⟨hq, hf, hU, hw⟩ := bothX_0 hb
  refine qk_of (qk_0 hq) (by rw [useU_nU h, (qk_ok hq).1]) fun k hk => ?_
  rw [useU_nU h, (qk_ok hq).1] at hk
  have h1 := qk_at hq hk
  have hL : leftN c r L = rateAt c (fl c L) - usedAt r (fl c L) := by rw [leftN, if_neg (by simp [hb])]
  rw [rtBad, useU_at h]
  simp only [Bool.or_eq_false_iff, ltB_false]
  split
  · rename_i e; subst e; omega
  · exact h1
theorem rate_le {c : D} (h : chE c = 0) {k : Nat} (hk : k < nC c) : 0 ≤ rateAt c k ∧ rateAt c k ≤ 64 := by
  have h4 := (ch_ok.1 h).2.1 k hk
  have h5 : clBad (clsAt c k) = false := by
    by_cases hb : clBad (clsAt c k) = true
    · rw [clE_2 hb] at h4; cases h4
    · simpa using hb
  simp only [clBad, out, Bool.or_eq_false_iff, ltB_false] at h5
  exact h5.2
theorem newU_at {c : D} (h : chE c = 0) (k : Nat) : usedAt (newU c) k = 0 := by
  have : rl (newU c) = List.replicate (nC c) (.I 0) := by
    show (if chE c ≠ 0 then [] else List.replicate (nC c) (D.I 0)) = _
    rw [if_neg (by simp [h])]
  rw [usedAt, this, List.getD_eq_getElem?_getD, List.getElem?_replicate]
  split <;> rfl
theorem newU_nU {c : D} (h : chE c = 0) : nU (newU c) = nC c := by
  show (if chE c ≠ 0 then [] else List.replicate (nC c) (D.I 0)).length = _
  rw [if_neg (by simp [h]), List.length_replicate]
theorem newU_ok {c : D} (h : chE c = 0) : qk c (newU c) = 0 := by
  refine qk_of h (newU_nU h) fun k hk => ?_
  rw [newU_nU h] at hk
  have := rate_le h hk
  rw [rtBad, newU_at h]
  simp only [Bool.or_eq_false_iff, ltB_false]; omega
theorem stepU_ok {c r : D} (h : qk c r = 0) (L : Int) : qk c (stepU c r L) = 0 := by
  rw [stepU]
  split
  · rename_i h1; exact useU_ok h1
  · exact h
theorem madeR_ok {c : D} (h : chE c = 0) (l : List D) : ∀ i, qk c (madeR c l i) = 0
  | 0 => newU_ok h
  | i + 1 => stepU_ok (madeR_ok h l i) _
theorem madeQ_fun : FunOK cMadeQ 200 Try.f48 sMadeQ := fun n hn l hl _ => by
  simp only [InR] at hl
  have hl0 := hl.1
  clear hl
  obtain ⟨c, hc⟩ : ∃ c, c = cfgD (cfgK n.int) := ⟨_, rfl⟩
  have hr : chE c = 0 := hc ▸ cfg_right (cfgK_range _).1 (cfgK_range _).2
  refine ⟨{ i : Nat // i ≤ min l.list.length 20 }, 4, fun i => ([(11, .dat i64 (.I i.1)), (10, .dat (.slice u64) (.L labs5)), (9, .dat i64 (.I 0)), (8, .ptr 3 ratesS [] ratesS), (7, .ptr 2 configS [] configS), (6, .dat .bool (.B false)), (5, .ptr 1 ratesS [] ratesS), (4, .ptr 0 configS [] configS), (1, .dat (.slice i64) l)],
    [(3, .box ratesS (.dat ratesS (madeR c l.list i.1))), (2, .box configS (.dat configS c)), (1, .box ratesS (.st [.slice i64] [nilS])), (0, cfgO)]), fun i => min l.list.length 20 - i.1,
    ⟨0, by omega⟩, ⟨[], rfl, ⟨rfl, rfl, slot (hc ▸ hr), rfl, rfl, rfl, rfl, rfl, rfl, trivial⟩, ⟨bx (by rw [hc]; rfl), bx hc.symm, rfl, rfl, trivial⟩⟩, ?_⟩
  intro x
  obtain ⟨i, hi⟩ := x
  have hq := madeR_ok hr l.list i
  have hux := useX_in hq (numL l.list i)
  have hi1 : (ltB (i : Int) (l.list.length : Int) && ltB (i : Int) 20 && true) = true → i < l.list.length ∧ i < 20 := fun h => by
    simp only [Bool.and_true, Bool.and_eq_true, ltB_true] at h; omega
  refine ⟨fun h1 => ⟨ix (hi1 h1).1, ?_, by kernel_rfl, fun h2 => ?_, fun h2 => ⟨fun h3 => ?_, fun h3 => ?_⟩⟩, fun h1 => ⟨by kernel_rfl, Bears.same (eqSame hc), Bears.same (eqSame ?_), Bears.bool ?_, trivial⟩⟩
  · have := modI_range (a := (l.list.getD i .Z).int) (n := 5) (by omega) (by omega)
    exact this
  · have := hi1 h1
    replace h2 : (useX c (madeR c l.list i) (numL l.list i) == 0) = true := h2
    exact ⟨⟨i + 1, by omega⟩, ⟨[], rfl, ⟨slot (i64_1 (n := i) (by omega)), rfl, rfl, rfl, rfl, rfl, rfl, rfl, rfl, trivial⟩, ⟨bx (by show useU c (madeR c l.list i) (numL l.list i) = stepU c (madeR c l.list i) (numL l.list i); rw [stepU, if_pos (by simpa using h2)]), rfl, rfl, rfl, trivial⟩⟩, by show _ - (i + 1) < _ - i; omega⟩
  · replace h2 : (useX c (madeR c l.list i) (numL l.list i) == 0) = false := h2
    replace h3 : (useX c (madeR c l.list i) (numL l.list i) != 15 && useX c (madeR c l.list i) (numL l.list i) != 14) = true := h3
    simp only [beq_eq_false_iff_ne, Bool.and_eq_true, bne_iff_ne] at h2 h3
    omega
  · have := hi1 h1
    replace h2 : (useX c (madeR c l.list i) (numL l.list i) == 0) = false := h2
    exact ⟨⟨i + 1, by omega⟩, ⟨[], rfl, ⟨slot (i64_1 (n := i) (by omega)), rfl, rfl, rfl, rfl, rfl, rfl, rfl, rfl, trivial⟩, ⟨bx (by show madeR c l.list i = stepU c (madeR c l.list i) (numL l.list i); rw [stepU, if_neg (by simpa using h2)]), rfl, rfl, rfl, trivial⟩⟩, by show _ - (i + 1) < _ - i; omega⟩
  · replace h1 : (ltB (i : Int) (l.list.length : Int) && ltB (i : Int) 20 && true) = false := h1
    simp only [Bool.and_true, Bool.and_eq_false_iff, ltB_false] at h1
    show madeR c l.list i = madeR (cfgD (cfgK n.int)) l.list (min l.list.length 20)
    rw [← hc, show min l.list.length 20 = i by omega]
  · show (true && qk c (madeR c l.list i) == 0) = true
    simp [hq]
theorem madeQ_ok : SumOK Try.prog 48 sMadeQ := sumOK_of_vc (c := cMadeQ) (ctxOK (.cons cfg_ok (.cons qNew_ok (.cons use_ok (.cons labels5_ok (.cons mod_ok (.cons qCheck_ok .nil))))))) mixed Try.func48 rfl (by decide) @madeQ_fun
def sumF (f : Nat → Int) : Nat → Int
  | 0 => 0
  | n + 1 => sumF f n + f n
theorem sumF_range {f : Nat → Int} {b : Int} (b0 : 0 ≤ b) : ∀ {n : Nat}, (∀ k, k < n → 0 ≤ f k ∧ f k ≤ b) → 0 ≤ sumF f n ∧ sumF f n ≤ b * n
  | 0, _ => by simp [sumF]
  | n + 1, h => by
    have h1 := sumF_range b0 (n := n) fun k hk => h k (by omega)
    have h2 := h n (by omega)
    have e : b * ((n + 1 : Nat) : Int) = b * n + b := by rw [Int.natCast_add, Int.mul_add]; simp
    rw [e, sumF]; omega
theorem sumF_sub (f g : Nat → Int) : ∀ n, sumF (fun k => f k - g k) n = sumF f n - sumF g n
  | 0 => rfl
  | n + 1 => by rw [sumF, sumF, sumF, sumF_sub f g n]; omega
theorem sumU_sum {r : D} : ∀ {n : Nat}, n ≤ 8 → (∀ k, k < n → 0 ≤ usedAt r k ∧ usedAt r k ≤ 64) → sumU r n = sumF (usedAt r) n
  | 0, _, _ => rfl
  | n + 1, hn, h => by
    have h1 := sumU_sum (n := n) (by omega) fun k hk => h k (by omega)
    have h2 := sumF_range (by omega) (n := n) fun k hk => h k (by omega)
    have h3 := h n (by omega)
    rw [sumU, sumF, h1, wrap_i64 (by omega) (by omega)]
theorem fl_lab {c : D} (h : chE c = 0) {i : Nat} (hi : i < nC c) : fl c (labAt c i) = i := fl_at hi rfl fun k hk => lab_inj h k i hk hi
theorem both_lab {c r : D} (h : qk c r = 0) {i : Nat} (hi : i < nC c) : bothX c r (labAt c i) = 0 := by
  rw [bothX, if_neg (by simp [h]), qX, if_neg (by simp [qk_0 h]), fl_lab (qk_0 h) hi, if_pos hi]
theorem left_lab {c r : D} (h : qk c r = 0) {i : Nat} (hi : i < nC c) : leftN c r (labAt c i) = rateAt c i - usedAt r i := by
  rw [leftN, if_neg (by simp [both_lab h hi]), fl_lab (qk_0 h) hi]
theorem use_lab {c r : D} (h : qk c r = 0) {i : Nat} (hi : i < nC c) : useX c r (labAt c i) = if rateAt c i = usedAt r i then 15 else 0 := by
  rw [useX, if_neg (by simp [both_lab h hi]), left_lab h hi]
  by_cases e : rateAt c i = usedAt r i
  · rw [if_pos (by omega), if_pos e]
  · rw [if_neg (by omega), if_neg e]
theorem tot_sum {c r : D} (h : qk c r = 0) : totN c r = sumF (usedAt r) (nC c) := by
  have h8 := nC_le (qk_0 h)
  rw [totN, if_neg (by simp [h]), (qk_ok h).1]
  exact sumU_sum h8 fun k hk => by have := qk_at h hk; have := rate_le (qk_0 h) hk; omega
def cQCounts : Ctx := ⟨tab, refs, [(6, sTrue), (48, sMadeQ), (41, sTot), (39, sLeft), (37, sMay), (29, sUse), (49, sMod), (50, sLabels), (43, sSeen), (26, sOwnR), (20, sSameI)], [], keep, mps⟩
def sLawC : Sum := ⟨[i64, .slice i64, i64], fun _ => none, fun _ => .dat .bool (.B true)⟩
theorem counts_fun : FunOK cQCounts 300 Try.f7 sLawC := fun n hn l hl a ha _ => by
  obtain ⟨c, hc⟩ : ∃ c, c = cfgD (cfgK n.int) := ⟨_, rfl⟩
  have hr : chE c = 0 := hc ▸ cfg_right (cfgK_range _).1 (cfgK_range _).2
  have hN : 2 ≤ nC c ∧ nC c ≤ 5 := by rw [hc, cfg_nC]; exact cfgN_range (cfgK_range _).1
  obtain ⟨r, hrr⟩ : ∃ r, r = madeR c l.list (min l.list.length 20) := ⟨_, rfl⟩
  have hq : qk c r = 0 := hrr ▸ madeR_ok hr _ _
  have hU := (qk_ok hq).1
  have q1 : qk (cfgD (cfgK n.int)) (madeR (cfgD (cfgK n.int)) l.list (min l.list.length 20)) = 0 := by rw [← hc, ← hrr]; exact hq
  have q2 : totN (cfgD (cfgK n.int)) (madeR (cfgD (cfgK n.int)) l.list (min l.list.length 20)) = totN c r := by rw [← hc, ← hrr]
  have q3 : madeR (cfgD (cfgK n.int)) l.list (min l.list.length 20) = r := by rw [← hc, ← hrr]
  refine ⟨fun h1 => ?_, fun h1 => ?_⟩
  · replace h1 : (!true || (nU (madeR (cfgD (cfgK n.int)) l.list (min l.list.length 20)) : Int) != (nC (cfgD (cfgK n.int)) : Int)) = true := h1
    rw [← hc, ← hrr, hU] at h1
    simp at h1
  clear h1
  refine ⟨{ i : Nat // i ≤ nC c }, 2, fun i => ([(15, .dat i64 (.I i.1)), (14, .dat i64 (.I (sumF (fun k => rateAt c k - usedAt r k) i.1))), (13, .dat i64 (.I (sumF (rateAt c) i.1))), (12, .dat i64 (.I 0)), (11, .dat i64 (.I (totN c r))), (9, .ptr 1 ratesS [] ratesS), (8, .ptr 0 configS [] configS), (7, .dat .bool (.B true)), (2, .dat i64 (.I a.int))],
    [(1, .box ratesS (.dat ratesS r)), (0, .box configS (.dat configS c))]), fun i => nC c - i.1,
    ⟨0, by omega⟩, ⟨[], rfl, ⟨rfl, rfl, rfl, slot q1, slot q2, rfl, rfl, rfl, rfl, trivial⟩, ⟨bx q3, bx hc.symm, trivial⟩⟩, ?_⟩
  intro x
  obtain ⟨i, hi⟩ := x
  have hlt : ltB (i : Int) (nC c : Int) = true → i < nC c := ltN
  have hge : ltB (i : Int) (nC c : Int) = false → i = nC c := geN hi
  have us : ∀ k, k < nC c → (0 ≤ usedAt r k ∧ usedAt r k ≤ rateAt c k) ∧ 0 ≤ rateAt c k ∧ rateAt c k ≤ 64 := fun k hk => ⟨qk_at hq hk, rate_le hr hk⟩
  have s1 := sumF_range (b := 64) (by omega) (n := i) (f := rateAt c) fun k hk => (us k (by omega)).2
  have s2 := sumF_range (b := 64) (by omega) (n := i) (f := fun k => rateAt c k - usedAt r k) fun k hk => by
    have := us k (by omega)
    show 0 ≤ rateAt c k - usedAt r k ∧ rateAt c k - usedAt r k ≤ 64
    omega
  refine ⟨fun h1 => ⟨ix (hlt h1), by kernel_rfl, fun h2 => Bears.bool ?_, fun h2 => ⟨ix (hlt h1), ?_⟩⟩, fun h1 => ⟨fun h2 => Bears.bool ?_, fun h2 => ⟨?_, ?_, ?_⟩⟩⟩
  · replace h2 : (bothX c r (labAt c i) != 0 || ltB (leftN c r (labAt c i)) 0) = true := h2
    have := us i (hlt h1)
    rw [both_lab hq (hlt h1), left_lab hq (hlt h1)] at h2
    simp only [bne_self_eq_false, Bool.false_or, ltB_true] at h2
    omega
  · have h3 := hlt h1
    have := us i h3
    refine ⟨⟨i + 1, by omega⟩, ⟨[], rfl, ⟨slot (i64_1 (n := i) (by omega)), slot ?_, slot ?_, rfl, rfl, rfl, rfl, rfl, rfl, trivial⟩, ⟨rfl, rfl, trivial⟩⟩, by show _ - (i + 1) < _ - i; omega⟩
    · show IntKind.i64.wrap (sumF (fun k => rateAt c k - usedAt r k) i + leftN c r (labAt c i)) = sumF (fun k => rateAt c k - usedAt r k) i + (rateAt c i - usedAt r i)
      rw [left_lab hq h3, wrap_i64 (by omega) (by omega)]
    · show IntKind.i64.wrap (sumF (rateAt c) i + rateAt c i) = sumF (rateAt c) i + rateAt c i
      rw [wrap_i64 (by omega) (by omega)]
  · replace h2 : (false || totN c r != IntKind.i64.wrap (sumF (rateAt c) i - sumF (fun k => rateAt c k - usedAt r k) i)) = true := h2
    rw [wrap_i64 (by omega) (by omega), sumF_sub, tot_sum hq, hge h1] at h2
    simp only [Bool.false_or, bne_iff_ne] at h2
    omega
  · exact modI_range (a := a.int) (n := (nC c : Int)) (by omega) (by omega)
  · have := modI_range (a := a.int) (n := (nC c : Int)) (by omega) (by omega)
    show 0 ≤ modI a.int (nC c) ∧ modI a.int (nC c) < (nU r : Int)
    rw [hU]; exact this
  clear s1 s2 us h1 h2 hlt hge
  obtain ⟨t, ht⟩ : ∃ t, t = (modI a.int (nC c)).toNat := ⟨_, rfl⟩
  have hA := modI_range (a := a.int) (n := (nC c : Int)) (by omega) (by omega)
  have htI : modI a.int (nC c) = t := by omega
  have htN : t < nC c := by omega
  refine ⟨{ x : D // qk c x = 0 }, 2, fun x => ([(20, .dat i64 (.I (usedAt x.1 t))), (19, .dat u64 (.I (labAt c t))), (18, .dat i64 (.I t)), (9, .ptr 1 ratesS [] ratesS), (8, .ptr 0 configS [] configS), (7, .dat .bool (.B true))], [(1, .box ratesS (.dat ratesS x.1)), (0, .box configS (.dat configS c))]), fun x => (rateAt c t - usedAt x.1 t).toNat,
    ⟨r, hq⟩, ⟨[], rfl, ⟨?_, ?_, slot htI, rfl, rfl, rfl, trivial⟩, ⟨rfl, rfl, trivial⟩⟩, ?_⟩
  · refine slot ?_
    show usedAt r (modI a.int (nC c)).toNat = usedAt r t
    rw [← ht]
  · refine slot ?_
    show labAt c (modI a.int (nC c)).toNat = labAt c t
    rw [← ht]
  clear hi i hq hrr q1 q2 q3 hU r ht hA
  intro x
  obtain ⟨r, hq⟩ := x
  have hU := (qk_ok hq).1
  have hu := qk_at hq htN
  have hw := rate_le hr htN
  have hb := both_lab hq htN
  have hl := left_lab hq htN
  have hx := use_lab hq htN
  refine ⟨ix htN, fun h1 => ?_, fun h1 => Bears.bool ?_⟩
  all_goals replace h1 : ltB (usedAt r t) (rateAt c t) = _ := h1
  all_goals simp only [ltB_true, ltB_false] at h1
  · rw [if_neg (by omega)] at hx
    have hn : nU (useU c r (labAt c t)) = nC c := by rw [useU_nU hx, hU]
    have hat := useU_at hx
    rw [fl_lab hr htN] at hat
    refine ⟨fun h2 => ⟨?_, ?_⟩, fun h2 => Bears.bool ?_, fun h2 => ?_⟩
    · show 0 ≤ (t : Int)
      omega
    · show (t : Int) < (nU (useU c r (labAt c t)) : Int)
      omega
    · replace h2 : (bothX c r (labAt c t) != 0 || !ltB 0 (leftN c r (labAt c t)) || useX c r (labAt c t) != 0 || (nU (useU c r (labAt c t)) : Int) != (nU r : Int) || usedAt (useU c r (labAt c t)) t != IntKind.i64.wrap (usedAt r t + 1)) = true := h2
      rw [hb, hl, hx, hn, hU, hat t, if_pos rfl, wrap_i64 (by omega) (by omega)] at h2
      simp only [bne_self_eq_false, Bool.false_or, Bool.or_false, Bool.not_eq_true', ltB_false] at h2
      omega
    clear h2
    refine ⟨{ k : Nat // k ≤ nC c }, 3, fun k => ([(25, .dat i64 (.I k.1)), (23, .ptr 2 ratesS [] ratesS), (20, .dat i64 (.I (usedAt r t))), (19, .dat u64 (.I (labAt c t))), (18, .dat i64 (.I t)), (9, .ptr 1 ratesS [] ratesS), (8, .ptr 0 configS [] configS), (7, .dat .bool (.B true))],
      [(2, .box ratesS (.dat ratesS (useU c r (labAt c t)))), (1, .box ratesS (.dat ratesS r)), (0, .box configS (.dat configS c))]), fun k => nC c - k.1, ⟨0, by omega⟩, ⟨[], rfl, ⟨rfl, rfl, rfl, rfl, rfl, rfl, rfl, rfl, trivial⟩, ⟨rfl, rfl, rfl, trivial⟩⟩, ?_⟩
    intro x
    obtain ⟨k, hk⟩ := x
    have hlt : ltB (k : Int) (nU r : Int) = true → k < nC c := fun h => by have := ltN h; omega
    refine ⟨fun h1 => ⟨fun _ => ⟨?_, ?_⟩, fun _ => ⟨?_, ?_⟩, by kernel_rfl, fun h2 => Bears.bool ?_, fun h2 => ?_⟩, fun h1 => ?_⟩
    · show 0 ≤ (k : Int)
      omega
    · have := hlt h1
      show (k : Int) < (nU (useU c r (labAt c t)) : Int)
      omega
    · show 0 ≤ (k : Int)
      omega
    · have := hlt h1
      show (k : Int) < (nU r : Int)
      omega
    · replace h2 : ((k : Int) != (t : Int) && usedAt (useU c r (labAt c t)) k != usedAt r k) = true := h2
      simp only [Bool.and_eq_true, bne_iff_ne, ne_eq, Int.natCast_inj] at h2
      rw [hat k, if_neg h2.1] at h2
      exact absurd rfl h2.2
    · have := hlt h1
      exact ⟨⟨k + 1, this⟩, ⟨[], rfl, ⟨slot (i64_1 (n := k) (by omega)), rfl, rfl, rfl, rfl, rfl, rfl, rfl, trivial⟩, ⟨rfl, rfl, rfl, trivial⟩⟩, by show _ - (k + 1) < _ - k; omega⟩
    · refine ⟨⟨useU c r (labAt c t), useU_ok hx⟩, ⟨[], rfl, ⟨slot ?_, rfl, rfl, rfl, rfl, rfl, trivial⟩, ⟨rfl, rfl, trivial⟩⟩, ?_⟩
      · show IntKind.i64.wrap (usedAt r t + 1) = usedAt (useU c r (labAt c t)) t
        rw [hat t, if_pos rfl, wrap_i64 (by omega) (by omega)]
      · show (rateAt c t - usedAt (useU c r (labAt c t)) t).toNat < (rateAt c t - usedAt r t).toNat
        rw [hat t, if_pos rfl]
        omega
  · rw [if_pos (by omega)] at hx
    show (true && bothX c r (labAt c t) == 0 && !ltB 0 (leftN c r (labAt c t)) && useX c r (labAt c t) == 15 && bothX c r (labAt c t) == 0 && leftN c r (labAt c t) == 0) = true
    rw [hb, hl, hx]
    simp only [beq_self_eq_true, Bool.true_and, Bool.and_true, Bool.and_eq_true, Bool.not_eq_true', ltB_false, beq_iff_eq]
    omega
theorem counts_ok : SumOK Try.prog 7 sLawC := sumOK_of_vc (c := cQCounts) (ctxOK (.cons knownQ_ok (.cons madeQ_ok (.cons tot_ok (.cons left_ok (.cons may_ok (.cons use_ok (.cons mod_ok (.cons labels5_ok (.cons seen_ok (.cons ownR_ok (.cons sameInts_ok .nil)))))))))))) mixed Try.func7 rfl (by decide) @counts_fun
def sLawB : Sum := ⟨[i64, .slice i64, .slice i64, u64], fun _ => none, fun _ => .dat .bool (.B true)⟩
theorem seenU_congr {c r s : D} {L : Int} : ∀ {n : Nat}, (∀ k, k < n → seeB c L k = true → usedAt s k = usedAt r k) → seenU c s L n = seenU c r L n
  | 0, _ => rfl
  | n + 1, h => by
    rw [seenU, seenU, seenU_congr fun k hk => h k (by omega)]
    split
    · rename_i h1; rw [h n (by omega) h1]
    · rfl
theorem fl_spec {c : D} {L : Int} (h : fl c L < nC c) : labAt c (fl c L) = L := by
  have h1 := (fi_spec (f := fun k => if labAt c k = L then 1 else 0) (m := nC c) (i := 0)).2 (by have h2 : fi (fun k => if labAt c k = L then 1 else 0) (nC c) 0 < nC c := h; omega)
  by_cases e : labAt c (fl c L) = L
  · exact e
  · exact absurd (if_neg e) h1
theorem blind_fun : FunOK cQCounts 300 Try.f8 sLawB := fun n hn l hl o ho k hk _ => by
  simp only [InR] at ho
  have ho0 := ho.1
  clear ho
  obtain ⟨c, hc⟩ : ∃ c, c = cfgD (cfgK n.int) := ⟨_, rfl⟩
  have hr : chE c = 0 := hc ▸ cfg_right (cfgK_range _).1 (cfgK_range _).2
  have hN : 2 ≤ nC c ∧ nC c ≤ 5 := by rw [hc, cfg_nC]; exact cfgN_range (cfgK_range _).1
  obtain ⟨r, hrr⟩ : ∃ r, r = madeR c l.list (min l.list.length 20) := ⟨_, rfl⟩
  have hq : qk c r = 0 := hrr ▸ madeR_ok hr _ _
  have hU := (qk_ok hq).1
  have q3 : madeR (cfgD (cfgK n.int)) l.list (min l.list.length 20) = r := by rw [← hc, ← hrr]
  refine ⟨fun h1 => ?_, fun h1 => ⟨?_, ?_⟩⟩
  · cases h1
  · show nU (madeR (cfgD (cfgK n.int)) l.list (min l.list.length 20)) ≤ 1000
    rw [q3]; omega
  clear h1
  refine ⟨{ x : Nat × D // x.1 ≤ o.list.length ∧ qk c x.2 = 0 ∧ ∀ j, j < nC c → seeB c k.int j = true → usedAt x.2 j = usedAt r j }, 3, fun x => ([(15, .dat i64 (.I x.1.1)), (14, .dat (.slice u64) (.L labs5)), (13, .ptr 2 ratesS [] ratesS), (11, .ptr 1 ratesS [] ratesS), (10, .ptr 0 configS [] configS), (9, .dat .bool (.B true)), (2, .dat (.slice i64) o), (3, .dat u64 (.I k.int))],
    [(2, .box ratesS (.dat ratesS x.1.2)), (1, .box ratesS (.dat ratesS r)), (0, .box configS (.dat configS c))]), fun x => o.list.length - x.1.1,
    ⟨(0, r), by omega, hq, fun _ _ _ => rfl⟩, ⟨[], rfl, ⟨rfl, rfl, rfl, rfl, rfl, rfl, rfl, rfl, trivial⟩, ⟨bx q3, bx q3, bx hc.symm, trivial⟩⟩, ?_⟩
  intro x
  obtain ⟨⟨i, s⟩, hi, hs, hv⟩ := x
  simp only at hi hs hv
  have hi1 : (ltB (i : Int) (o.list.length : Int) && ltB (i : Int) 20) = true → i < o.list.length ∧ i < 20 := fun h => by
    simp only [Bool.and_eq_true, ltB_true] at h; omega
  refine ⟨fun h1 => ⟨ix (hi1 h1).1, ?_, fun h2 => ?_, fun h2 => ⟨fun h3 => ?_, fun h3 => ?_⟩⟩, fun h1 => Bears.bool ?_⟩
  · have := modI_range (a := (o.list.getD i .Z).int) (n := 5) (by omega) (by omega)
    exact this
  · have := hi1 h1
    exact ⟨⟨(i + 1, s), this.1, hs, hv⟩, ⟨[], rfl, ⟨slot (i64_1 (n := i) (by omega)), rfl, rfl, rfl, rfl, rfl, rfl, rfl, trivial⟩, ⟨rfl, rfl, rfl, trivial⟩⟩, by show _ - (i + 1) < _ - i; omega⟩
  · have := hi1 h1
    replace h2 : belowB (numL o.list i) k.int = false := h2
    replace h3 : (useX c s (numL o.list i) == 0) = true := h3
    have h3 := beq_iff_eq.mp h3
    refine ⟨⟨(i + 1, useU c s (numL o.list i)), this.1, useU_ok h3, fun j hj hb => ?_⟩, ⟨[], rfl, ⟨slot (i64_1 (n := i) (by omega)), rfl, rfl, rfl, rfl, rfl, rfl, rfl, trivial⟩, ⟨rfl, rfl, rfl, trivial⟩⟩, by show _ - (i + 1) < _ - i; omega⟩
    rw [useU_at h3, if_neg, hv j hj hb]
    intro e
    subst e
    rw [seeB, fl_spec hj, h2] at hb
    cases hb
  · have := hi1 h1
    exact ⟨⟨(i + 1, s), this.1, hs, hv⟩, ⟨[], rfl, ⟨slot (i64_1 (n := i) (by omega)), rfl, rfl, rfl, rfl, rfl, rfl, rfl, trivial⟩, ⟨rfl, rfl, rfl, trivial⟩⟩, by show _ - (i + 1) < _ - i; omega⟩
  · show (true && qk c r == 0 && qk c s == 0 && sameI (if qk c r ≠ 0 then [] else seenU c r k.int (nU r)) (if qk c s ≠ 0 then [] else seenU c s k.int (nU s))) = true
    rw [if_neg (by simp [hq]), if_neg (by simp [hs]), (qk_ok hq).1, (qk_ok hs).1, seenU_congr hv, sameI_rfl, hq, hs]
    rfl
theorem blind_ok : SumOK Try.prog 8 sLawB := sumOK_of_vc (c := cQCounts) (ctxOK (.cons knownQ_ok (.cons madeQ_ok (.cons tot_ok (.cons left_ok (.cons may_ok (.cons use_ok (.cons mod_ok (.cons labels5_ok (.cons seen_ok (.cons ownR_ok (.cons sameInts_ok .nil)))))))))))) mixed Try.func8 rfl (by decide) @blind_fun
end Go.Proofs.Ytjcfnooplhoheaa
