/- What is right of a configuration that is made of a number. Accounts of quotas that are made of numbers, and their laws. -/
import Derived.Test.YtpfpgjkbnjnjnaaWCn
namespace Go.Proofs.Ytpfpgjkbnjnjnaa.Cf
open Go Go.Vm
set_option linter.unusedSimpArgs false
set_option maxRecDepth 10000
theorem tnsR_get (K : Int) : ∀ {n i : Nat}, i < n → (tnsR K n).nth i = tnR K i
  | n + 1, i, h => by
    rw [tnsR, D.puts_idx]
    simp only [D.nth_F, D.puts_nil]
    by_cases e : i = n
    · rw [if_pos e, e]
    · rw [if_neg e, tnsR_get K (by omega)]
theorem cfg_nC (K : Int) : nC (cfgD K) = cfgN K := clsR_len _ _
theorem cfg_nR (K : Int) : nR (cfgD K) = cfgM (cfgJ K) := rlsR_len _ _ _
theorem cfg_cls {K : Int} {i : Nat} (h : i < cfgN K) : clsAt (cfgD K) i = clR K i := tbl_get _ h
theorem cfg_rls {K : Int} {i : Nat} (h : i < cfgM (cfgJ K)) : rlsAt (cfgD K) i = ruR (cfgJ K) (cfgN K) i := by
  have : rlsAt (cfgD K) i = ruR (cfgJ K) (cfgL K) i := tbl_get _ h
  rw [this, cfgL, clsR_len]
def labI (i : Nat) : Int := (labs5.getD i .Z).int
theorem cfg_lab {K : Int} {i : Nat} (h : i < cfgN K) : labAt (cfgD K) i = labI i := by rw [labAt, cfg_cls h]; rfl
section
variable {K : Int} (k0 : 0 ≤ K) (k1 : K < 1099511627776)
include k0 k1
/-- 1 + (K / d + i) % m lies in 1..m. -/
theorem one_mod (d : Int) (d1 : 1 ≤ d) (t : Int) (t0 : 0 ≤ t) (ht : t < 1000) (m : Int) (m1 : 1 ≤ m) (m2 : m < 1000) : 1 ≤ w (1 + (w (w (K.tdiv d) + t)).tmod m) ∧ w (1 + (w (w (K.tdiv d) + t)).tmod m) ≤ m := by
  have h := mod_ix k0 k1 d d1 t.toNat (by omega) m m1
  rw [show ((t.toNat : Nat) : Int) = t by omega] at h
  rw [w_ok (n := 1 + (w (w (K.tdiv d) + t)).tmod m) (by omega) (by omega)]
  omega
theorem cfg_size {i : Nat} (h : i < cfgN K) : 1 ≤ sizeAt (cfgD K) i ∧ sizeAt (cfgD K) i ≤ 7 := by
  have h5 := (cfgN_range k0).2
  have : sizeAt (cfgD K) i = w (1 + (w (w (K.tdiv 4) + w (3 * i))).tmod 7) := by rw [sizeAt, cfg_cls h]; rfl
  rw [this, w_ok (n := 3 * (i : Int)) (by omega) (by omega)]
  exact one_mod k0 k1 4 (by omega) (3 * i) (by omega) (by omega) 7 (by omega) (by omega)
theorem cfg_rate {i : Nat} (h : i < cfgN K) : 1 ≤ rateAt (cfgD K) i ∧ rateAt (cfgD K) i ≤ 5 := by
  have h5 := (cfgN_range k0).2
  have : rateAt (cfgD K) i = w (1 + (w (w (K.tdiv 28) + i)).tmod 5) := by rw [rateAt, cfg_cls h]; rfl
  rw [this]
  exact one_mod k0 k1 28 (by omega) i (by omega) (by omega) 5 (by omega) (by omega)
theorem cfg_ten {t : Nat} (ht : t < 6) : tnBad (tnR K t) = false := by
  have a1 := one_mod k0 k1 140 (by omega) t (by omega) (by omega) 9 (by omega) (by omega)
  have a2 := one_mod k0 k1 1260 (by omega) t (by omega) (by omega) 3 (by omega) (by omega)
  have b1 := mod_ix k0 k1 3780 (by omega) t (by omega) 4 (by omega)
  have b2 := mod_ix k0 k1 15120 (by omega) t (by omega) 4 (by omega)
  have b3 := mod_ix k0 k1 60480 (by omega) t (by omega) 3 (by omega)
  have c1 : ∀ a, a < 4 → out ([D.I 64, .I 8, .I 3, .I 20].getD a .Z).int 0 64 = false := by decide
  have c2 : ∀ a, a < 4 → out ([D.I 64, .I 5, .I 2, .I 12].getD a .Z).int 0 64 = false := by decide
  have c3 : ∀ a, a < 3 → out ([D.I 64, .I 2, .I 9].getD a .Z).int 0 64 = false := by decide
  have o1 : out (w (1 + (w (w (K.tdiv 140) + t)).tmod 9)) 1 64 = false := by
    simp only [out, Bool.or_eq_false_iff, ltB_false]; omega
  have o2 : out (w (1 + (w (w (K.tdiv 1260) + t)).tmod 3)) 0 4 = false := by
    simp only [out, Bool.or_eq_false_iff, ltB_false]; omega
  show (out (w (1 + (w (w (K.tdiv 140) + t)).tmod 9)) 1 64 || out (w (1 + (w (w (K.tdiv 1260) + t)).tmod 3)) 0 4 || out ([D.I 64, .I 8, .I 3, .I 20].getD ((w (w (K.tdiv 3780) + t)).tmod 4).toNat .Z).int 0 64 || out ([D.I 64, .I 5, .I 2, .I 12].getD ((w (w (K.tdiv 15120) + t)).tmod 4).toNat .Z).int 0 64 || out ([D.I 64, .I 2, .I 9].getD ((w (w (K.tdiv 60480) + t)).tmod 3).toNat .Z).int 0 64) = false
  rw [o1, o2, c1 _ (by omega), c2 _ (by omega), c3 _ (by omega)]; rfl
theorem cfg_hor : horBad (cfgD K) = false := by
  have h1 : 0 ≤ K.tdiv 181440 := Int.tdiv_nonneg k0 (by omega)
  have h2 : K.tdiv 181440 ≤ K := Int.tdiv_le_self _ k0
  show out (hoR K) 1 10000 = false
  rw [hoR, w_ok (n := K.tdiv 181440) (by omega) (by omega), Int.tmod_eq_emod_of_nonneg h1, w_ok (by omega) (by omega), wrap_u64 (by omega) (by omega)]
  simp only [out, Bool.or_eq_false_iff, ltB_false]; omega
end
theorem ruR_nth {J : Int} {N i k : Nat} (hk : k < 7) (h4 : k ≠ 4) : (ruR J N i).nth k = (ruR0 J N i).nth k := by
  rw [ruR]
  split
  · rfl
  · rw [D.puts_fld (ss := [i64, u64, u64, .bool, i64, i64, i64]) (i := 4) (s := i64) rfl, ofNth_nth, if_neg h4]
    exact hk
theorem ruR_kind {J : Int} {N i : Nat} : (ruR J N i).nth 4 = if anyR J i = true then D0 i64 else .I ((w ((jR J i).tdiv 7)).tmod 3) := by
  rw [ruR]
  split
  · rfl
  · rw [D.puts_fld (ss := [i64, u64, u64, .bool, i64, i64, i64]) (i := 4) (s := i64) rfl, ofNth_nth, if_pos rfl, D.puts_nil]
    decide
section
variable {J : Int} (j0 : 0 ≤ J) (j1 : J < 1099511627776) {i : Nat} (hi : i < 5)
include j0 j1 hi
/-- A part of the number that a rule is made of. -/
theorem jR_div (d : Int) (d1 : 1 ≤ d) (m : Int) (m1 : 1 ≤ m) : 0 ≤ (w ((jR J i).tdiv d)).tmod m ∧ (w ((jR J i).tdiv d)).tmod m < m := by
  have h := jR_range j0 j1 hi
  have h1 : 0 ≤ (jR J i).tdiv d := Int.tdiv_nonneg h.1 (by omega)
  have h2 : (jR J i).tdiv d ≤ jR J i := Int.tdiv_le_self _ h.1
  rw [w_ok (by omega) (by omega), Int.tmod_eq_emod_of_nonneg h1]
  exact ⟨Int.emod_nonneg _ (by omega), Int.emod_lt_of_pos _ (by omega)⟩
theorem ruR_owner (N : Nat) : 1 ≤ ((ruR J N i).nth 0).int ∧ ((ruR J N i).nth 0).int ≤ 4 := by
  have h := jR_div j0 j1 hi 5 (by omega) 4 (by omega)
  rw [ruR_nth (by decide) (by decide)]
  show 1 ≤ w (1 + (w ((jR J i).tdiv 5)).tmod 4) ∧ w (1 + (w ((jR J i).tdiv 5)).tmod 4) ≤ 4
  rw [w_ok (n := 1 + (w ((jR J i).tdiv 5)).tmod 4) (by omega) (by omega)]
  omega
theorem ruR_labels {N : Nat} (n1 : 1 ≤ N) (n5 : N ≤ 5) : ∃ a x y : Nat, a < 5 ∧ a < N ∧ x < 4 ∧ y < 2 ∧ ((ruR J N i).nth 1).int = bitsOp .or .u64 (labI a) (y : Int) ∧ ((ruR J N i).nth 2).int = bitsOp .and .u64 (labI a) (x : Int) := by
  have h := frR_range j0 j1 hi n1
  have hx := jR_div j0 j1 hi 40 (by omega) 4 (by omega)
  have hy := jR_div j0 j1 hi 20 (by omega) 2 (by omega)
  refine ⟨(frR J N i).toNat, ((w ((jR J i).tdiv 40)).tmod 4).toNat, ((w ((jR J i).tdiv 20)).tmod 2).toNat, by omega, by omega, by omega, by omega, ?_, ?_⟩
  · rw [ruR_nth (by decide) (by decide)]
    show bitsOp .or .u64 (labI (frR J N i).toNat) (IntKind.u64.wrap ((w ((jR J i).tdiv 20)).tmod 2)) = _
    rw [wrap_u64 (by omega) (by omega)]
    congr 1; omega
  · rw [ruR_nth (by decide) (by decide)]
    show bitsOp .and .u64 (labI (frR J N i).toNat) (IntKind.u64.wrap ((w ((jR J i).tdiv 40)).tmod 4)) = _
    rw [wrap_u64 (by omega) (by omega)]
    congr 1; omega
theorem ruR_kinds (N : Nat) : 0 ≤ ((ruR J N i).nth 4).int ∧ ((ruR J N i).nth 4).int ≤ 2 ∧ (((ruR J N i).nth 3).bool = true → ((ruR J N i).nth 4).int = 0) := by
  have h := jR_div j0 j1 hi 7 (by omega) 3 (by omega)
  have e3 : ((ruR J N i).nth 3).bool = anyR J i := by rw [ruR_nth (by decide) (by decide)]; rfl
  rw [ruR_kind, e3]
  split
  · exact ⟨by decide, by decide, fun _ => rfl⟩
  · rename_i hn
    simp only [D.int_I]
    exact ⟨by omega, by omega, fun h => absurd h hn⟩
theorem ruR_bounds (N : Nat) : ((ruR J N i).nth 5).int = -5 ∧ 3 ≤ ((ruR J N i).nth 6).int := by
  have h := jR_range j0 j1 hi
  have h1 : 0 ≤ (jR J i).tdiv 320 := Int.tdiv_nonneg h.1 (by omega)
  have h2 : (jR J i).tdiv 320 ≤ jR J i := Int.tdiv_le_self _ h.1
  rw [ruR_nth (by decide) (by decide), ruR_nth (by decide) (by decide)]
  refine ⟨rfl, ?_⟩
  show 3 ≤ w (3 + w ((jR J i).tdiv 320))
  rw [w_ok (n := (jR J i).tdiv 320) (by omega) (by omega), w_ok (by omega) (by omega)]
  omega
theorem ruR_right {N : Nat} (n1 : 1 ≤ N) (n5 : N ≤ 5) : ruF (ruR J N i) = 0 := by
  have a1 := ruR_owner j0 j1 hi N
  obtain ⟨a, x, y, ha, _, hx, hy, e1, e2⟩ := ruR_labels j0 j1 hi n1 n5
  have a2 := ruR_kinds j0 j1 hi N
  have a3 := ruR_bounds j0 j1 hi N
  have hb : badOwner (ruR J N i) = false := by
    have h3 : (((ruR J N i).nth 3).bool && ((ruR J N i).nth 4).int != 0) = false := by
      cases h : ((ruR J N i).nth 3).bool
      · rfl
      · rw [a2.2.2 h]; rfl
    simp only [badOwner, h3, Bool.or_false, Bool.or_eq_false_iff, ltB_false]
    omega
  have hl : belowB ((ruR J N i).nth 2).int ((ruR J N i).nth 1).int = true := by
    have : ∀ a, a < 5 → ∀ x, x < 4 → ∀ y, y < 2 → belowB (bitsOp .and .u64 (labI a) (x : Nat)) (bitsOp .or .u64 (labI a) (y : Nat)) = true := by decide
    rw [e1, e2]; exact this a ha x hx y hy
  rw [ruF, hb, hl]
  simp only [Bool.false_eq_true, Bool.true_eq_false, if_false]
  rw [if_neg (by omega)]
end
theorem labI_inj : ∀ i, i < 5 → ∀ k, k < 5 → labI i = labI k → i = k := by decide
/-- A configuration that is made of a number is right. -/
theorem cfg_right {K : Int} (k0 : 0 ≤ K) (k1 : K < 1099511627776) : chE (cfgD K) = 0 := by
  obtain ⟨n1, n5⟩ := cfgN_range k0
  obtain ⟨j0, j1⟩ := cfgJ_range k0 k1
  have hM : cfgM (cfgJ K) < 5 := by rw [cfgM, Int.tmod_eq_emod_of_nonneg j0]; omega
  rw [ch_ok, cfg_nC, cfg_nR]
  refine ⟨?_, ?_, ?_, ?_, cfg_hor k0 k1⟩
  · rw [fullB, cfg_nC, cfg_nR]
    simp only [Bool.or_eq_false_iff, ltB_false]; omega
  · intro k hk
    have b1 := cfg_size k0 k1 hk
    have b2 := cfg_rate k0 k1 hk
    have hb : clBad ((cls (cfgD K)).getD k .Z) = false := by
      show (out (sizeAt (cfgD K) k) 1 64 || out (rateAt (cfgD K) k) 0 64) = false
      simp only [out, Bool.or_eq_false_iff, ltB_false]; omega
    have hd : dupL (cls (cfgD K)) k = false := by
      simp only [dupL, List.any_eq_false, List.mem_range, beq_iff_eq]
      intro j hj e
      have e : labAt (cfgD K) j = labAt (cfgD K) k := e
      rw [cfg_lab (by omega), cfg_lab hk] at e
      have := labI_inj j (by omega) k (by omega) e
      omega
    rw [clE, clEL, hb, hd]; rfl
  · intro k hk
    have : (cfgD K).nth 1 = tnsR K 6 := rfl
    rw [tnE, this, tnsR_get K hk, cfg_ten k0 k1 hk]; rfl
  · intro k hk
    rw [ruE, cfg_rls hk]
    exact ruR_right j0 j1 (by omega) (by omega) n5
end Go.Proofs.Ytpfpgjkbnjnjnaa.Cf

namespace Go.Proofs.Ytpfpgjkbnjnjnaa.Cf
open Go Go.Vm
set_option linter.unusedSimpArgs false
set_option maxRecDepth 10000
def cMadeQ : Ctx := ⟨tab, refs, [(23, sCfg), (36, sQNew), (49, sUse), (25, sLabels), (20, sMod), (43, sQk)], [], keep, mps⟩
/-- What becomes of rates by a use that is let in. -/
def stepU (c r : D) (L : Int) : D := if useX c r L = 0 then useU c r L else r
def numL (l : List D) (i : Nat) : Int := (labs5.getD (modI (l.getD i .Z).int 5).toNat .Z).int
def madeR (c : D) (l : List D) : Nat → D
  | 0 => newU c
  | n + 1 => stepU c (madeR c l n) (numL l n)
def sMadeQ : Sum := ⟨[i64, .slice i64], fun _ => none, fun
  | [n, l] => .tup [.dat configS (cfgD (cfgK n.int)), .dat ratesS (madeR (cfgD (cfgK n.int)) l.list (min l.list.length 20)), .dat .bool (.B true)]
  | _ => .und⟩
theorem useX_in {c r : D} (h : qk c r = 0) (L : Int) : useX c r L = 0 ∨ useX c r L = 14 ∨ useX c r L = 15 := by
  have hb : bothX c r L = if fl c L < nC c then 0 else 14 := by rw [bothX, if_neg (by simp [h]), qX, if_neg (by simp [qk_0 h])]
  rw [useX, hb]
  by_cases h1 : fl c L < nC c
  · simp only [h1, if_true]
    by_cases h2 : leftN c r L = 0
    · simp [h2]
    · simp [h2]
  · simp [h1]
theorem useX_both {c r : D} {L : Int} (h : useX c r L = 0) : bothX c r L = 0 ∧ leftN c r L ≠ 0 := by
  by_cases h1 : bothX c r L = 0
  · refine ⟨h1, fun h2 => ?_⟩
    rw [useX, if_neg (by simp [h1]), if_pos h2] at h; cases h
  · rw [useX, if_pos h1] at h; exact absurd h h1
theorem useU_rl {c r : D} {L : Int} (h : useX c r L = 0) : rl (useU c r L) = (rl r).set (fl c L) (.I (usedAt r (fl c L) + 1)) := by
  rw [useU, if_neg (by simp [h])]; rfl
theorem useU_at {c r : D} {L : Int} (h : useX c r L = 0) (k : Nat) : usedAt (useU c r L) k = if k = fl c L then usedAt r k + 1 else usedAt r k := by
  have hb := bothX_0 (useX_both h).1
  rw [usedAt, useU_rl h]
  by_cases e : k = fl c L
  · subst e
    rw [if_pos rfl]
    simp [List.getD_eq_getElem?_getD, show fl c L < (rl r).length from hb.2.2.1]
  · rw [if_neg e]
    simp [List.getD_eq_getElem?_getD, List.getElem?_set_ne (fun h => e h.symm), usedAt]
theorem useU_nU {c r : D} {L : Int} (h : useX c r L = 0) : nU (useU c r L) = nU r := by
  rw [nU, useU_rl h, List.length_set]; rfl
theorem qk_of {c r : D} (h : chE c = 0) (h1 : nU r = nC c) (h2 : ∀ k, k < nU r → rtBad c r k = false) : qk c r = 0 := by
  rw [qk, if_neg (by simp [h]), if_neg (by simp [h1]), if_neg]
  simp only [List.any_eq_true, List.mem_range, not_exists, not_and, Bool.not_eq_true]
  exact h2
theorem qk_at {c r : D} (h : qk c r = 0) {k : Nat} (hk : k < nC c) : 0 ≤ usedAt r k ∧ usedAt r k ≤ rateAt c k := by
  have h1 := (qk_ok h).2 k (by rw [(qk_ok h).1]; exact hk)
  simp only [rtBad, Bool.or_eq_false_iff, ltB_false] at h1
  exact h1
/-- One use more leaves rates right. -/
theorem useU_ok {c r : D} {L : Int} (h : useX c r L = 0) : qk c (useU c r L) = 0 := by
  obtain ⟨hb, hl⟩ := useX_both h
  obtain ⟨hq, hf, hU, hw⟩ := bothX_0 hb
  refine qk_of (qk_0 hq) (by rw [useU_nU h, (qk_ok hq).1]) fun k hk => ?_
  rw [useU_nU h, (qk_ok hq).1] at hk
  have h1 := qk_at hq hk
  have hL : leftN c r L = rateAt c (fl c L) - usedAt r (fl c L) := by rw [leftN, if_neg (by simp [hb])]
  rw [rtBad, useU_at h]
  simp only [Bool.or_eq_false_iff, ltB_false]
  split
  · rename_i e; subst e; omega
  · exact h1
theorem rate_le {c : D} (h : chE c = 0) {k : Nat} (hk : k < nC c) : 0 ≤ rateAt c k ∧ rateAt c k ≤ 64 := by
  have h4 := (ch_ok.1 h).2.1 k hk
  have h5 : clBad (clsAt c k) = false := by
    by_cases hb : clBad (clsAt c k) = true
    · rw [clE_2 hb] at h4; cases h4
    · simpa using hb
  simp only [clBad, out, Bool.or_eq_false_iff, ltB_false] at h5
  exact h5.2
theorem newU_at {c : D} (h : chE c = 0) (k : Nat) : usedAt (newU c) k = 0 := by
  have : rl (newU c) = List.replicate (nC c) (.I 0) := by
    show (if chE c ≠ 0 then [] else List.replicate (nC c) (D.I 0)) = _
    rw [if_neg (by simp [h])]
  rw [usedAt, this, List.getD_eq_getElem?_getD, List.getElem?_replicate]
  split <;> rfl
theorem newU_nU {c : D} (h : chE c = 0) : nU (newU c) = nC c := by
  show (if chE c ≠ 0 then [] else List.replicate (nC c) (D.I 0)).length = _
  rw [if_neg (by simp [h]), List.length_replicate]
theorem newU_ok {c : D} (h : chE c = 0) : qk c (newU c) = 0 := by
  refine qk_of h (newU_nU h) fun k hk => ?_
  rw [newU_nU h] at hk
  have := rate_le h hk
  rw [rtBad, newU_at h]
  simp only [Bool.or_eq_false_iff, ltB_false]; omega
theorem stepU_ok {c r : D} (h : qk c r = 0) (L : Int) : qk c (stepU c r L) = 0 := by
  rw [stepU]
  split
  · rename_i h1; exact useU_ok h1
  · exact h
theorem madeR_ok {c : D} (h : chE c = 0) (l : List D) : ∀ i, qk c (madeR c l i) = 0
  | 0 => newU_ok h
  | i + 1 => stepU_ok (madeR_ok h l i) _
def sumF (f : Nat → Int) : Nat → Int
  | 0 => 0
  | n + 1 => sumF f n + f n
theorem sumF_range {f : Nat → Int} {b : Int} (b0 : 0 ≤ b) : ∀ {n : Nat}, (∀ k, k < n → 0 ≤ f k ∧ f k ≤ b) → 0 ≤ sumF f n ∧ sumF f n ≤ b * n
  | 0, _ => by simp [sumF]
  | n + 1, h => by
    have h1 := sumF_range b0 (n := n) fun k hk => h k (by omega)
    have h2 := h n (by omega)
    have e : b * ((n + 1 : Nat) : Int) = b * n + b := by rw [Int.natCast_add, Int.mul_add]; simp
    rw [e, sumF]; omega
theorem sumF_sub (f g : Nat → Int) : ∀ n, sumF (fun k => f k - g k) n = sumF f n - sumF g n
  | 0 => rfl
  | n + 1 => by rw [sumF, sumF, sumF, sumF_sub f g n]; omega
theorem sumU_sum {r : D} : ∀ {n : Nat}, n ≤ 8 → (∀ k, k < n → 0 ≤ usedAt r k ∧ usedAt r k ≤ 64) → sumU r n = sumF (usedAt r) n
  | 0, _, _ => rfl
  | n + 1, hn, h => by
    have h1 := sumU_sum (n := n) (by omega) fun k hk => h k (by omega)
    have h2 := sumF_range (by omega) (n := n) fun k hk => h k (by omega)
    have h3 := h n (by omega)
    rw [sumU, sumF, h1, wrap_i64 (by omega) (by omega)]
theorem fl_lab {c : D} (h : chE c = 0) {i : Nat} (hi : i < nC c) : fl c (labAt c i) = i := fl_at hi rfl fun k hk => lab_inj h k i hk hi
theorem both_lab {c r : D} (h : qk c r = 0) {i : Nat} (hi : i < nC c) : bothX c r (labAt c i) = 0 := by
  rw [bothX, if_neg (by simp [h]), qX, if_neg (by simp [qk_0 h]), fl_lab (qk_0 h) hi, if_pos hi]
theorem left_lab {c r : D} (h : qk c r = 0) {i : Nat} (hi : i < nC c) : leftN c r (labAt c i) = rateAt c i - usedAt r i := by
  rw [leftN, if_neg (by simp [both_lab h hi]), fl_lab (qk_0 h) hi]
theorem use_lab {c r : D} (h : qk c r = 0) {i : Nat} (hi : i < nC c) : useX c r (labAt c i) = if rateAt c i = usedAt r i then 15 else 0 := by
  rw [useX, if_neg (by simp [both_lab h hi]), left_lab h hi]
  by_cases e : rateAt c i = usedAt r i
  · rw [if_pos (by omega), if_pos e]
  · rw [if_neg (by omega), if_neg e]
theorem tot_sum {c r : D} (h : qk c r = 0) : totN c r = sumF (usedAt r) (nC c) := by
  have h8 := nC_le (qk_0 h)
  rw [totN, if_neg (by simp [h]), (qk_ok h).1]
  exact sumU_sum h8 fun k hk => by have := qk_at h hk; have := rate_le (qk_0 h) hk; omega
def cQCounts : Ctx := ⟨tab, refs, [(49, sUse), (20, sMod), (25, sLabels), (38, sSeen), (17, sSameI)], [], keep, mps⟩
def sLawC : Sum := ⟨[i64, .slice i64, i64], fun _ => none, fun _ => .dat .bool (.B true)⟩
def sLawB : Sum := ⟨[i64, .slice i64, .slice i64, u64], fun _ => none, fun _ => .dat .bool (.B true)⟩
theorem seenU_congr {c r s : D} {L : Int} : ∀ {n : Nat}, (∀ k, k < n → seeB c L k = true → usedAt s k = usedAt r k) → seenU c s L n = seenU c r L n
  | 0, _ => rfl
  | n + 1, h => by
    rw [seenU, seenU, seenU_congr fun k hk => h k (by omega)]
    split
    · rename_i h1; rw [h n (by omega) h1]
    · rfl
theorem fl_spec {c : D} {L : Int} (h : fl c L < nC c) : labAt c (fl c L) = L := by
  have h1 := (fi_spec (f := fun k => if labAt c k = L then 1 else 0) (m := nC c) (i := 0)).2 (by have h2 : fi (fun k => if labAt c k = L then 1 else 0) (nC c) 0 < nC c := h; omega)
  by_cases e : labAt c (fl c L) = L
  · exact e
  · exact absurd (if_neg e) h1
end Go.Proofs.Ytpfpgjkbnjnjnaa.Cf
