/- What is right of a configuration that is made of a number. -/
import Derived.Test.YtmdhmjidmiemmaaWCn
namespace Go.Proofs.Ytmdhmjidmiemmaa.Cf
open Go Go.Vm
set_option linter.unusedSimpArgs false
set_option maxRecDepth 10000
theorem tnsR_get (K : Int) : ∀ {n i : Nat}, i < n → (tnsR K n).nth i = tnR K i
  | n + 1, i, h => by
    rw [tnsR, D.puts_idx]
    simp only [D.nth_F, D.puts_nil]
    by_cases e : i = n
    · rw [if_pos e, e]
    · rw [if_neg e, tnsR_get K (by omega)]
theorem cfg_nC (K : Int) : nC (cfgD K) = cfgN K := clsR_len _ _
theorem cfg_nR (K : Int) : nR (cfgD K) = cfgM (cfgJ K) := rlsR_len _ _ _
theorem cfg_cls {K : Int} {i : Nat} (h : i < cfgN K) : clsAt (cfgD K) i = clR K i := tbl_get _ h
theorem cfg_rls {K : Int} {i : Nat} (h : i < cfgM (cfgJ K)) : rlsAt (cfgD K) i = ruR (cfgJ K) (cfgN K) i := by
  have : rlsAt (cfgD K) i = ruR (cfgJ K) (cfgL K) i := tbl_get _ h
  rw [this, cfgL, clsR_len]
def labI (i : Nat) : Int := (labs5.getD i .Z).int
theorem cfg_lab {K : Int} {i : Nat} (h : i < cfgN K) : labAt (cfgD K) i = labI i := by rw [labAt, cfg_cls h]; rfl
section
variable {K : Int} (k0 : 0 ≤ K) (k1 : K < 1099511627776)
include k0 k1
/-- 1 + (K / d + i) % m lies in 1..m. -/
theorem one_mod (d : Int) (d1 : 1 ≤ d) (t : Int) (t0 : 0 ≤ t) (ht : t < 1000) (m : Int) (m1 : 1 ≤ m) (m2 : m < 1000) : 1 ≤ w (1 + (w (w (K.tdiv d) + t)).tmod m) ∧ w (1 + (w (w (K.tdiv d) + t)).tmod m) ≤ m := by
  have h := mod_ix k0 k1 d d1 t.toNat (by omega) m m1
  rw [show ((t.toNat : Nat) : Int) = t by omega] at h
  rw [w_ok (n := 1 + (w (w (K.tdiv d) + t)).tmod m) (by omega) (by omega)]
  omega
theorem cfg_size {i : Nat} (h : i < cfgN K) : 1 ≤ sizeAt (cfgD K) i ∧ sizeAt (cfgD K) i ≤ 7 := by
  have h5 := (cfgN_range k0).2
  have : sizeAt (cfgD K) i = w (1 + (w (w (K.tdiv 4) + w (3 * i))).tmod 7) := by rw [sizeAt, cfg_cls h]; rfl
  rw [this, w_ok (n := 3 * (i : Int)) (by omega) (by omega)]
  exact one_mod k0 k1 4 (by omega) (3 * i) (by omega) (by omega) 7 (by omega) (by omega)
theorem cfg_rate {i : Nat} (h : i < cfgN K) : 1 ≤ rateAt (cfgD K) i ∧ rateAt (cfgD K) i ≤ 5 := by
  have h5 := (cfgN_range k0).2
  have : rateAt (cfgD K) i = w (1 + (w (w (K.tdiv 28) + i)).tmod 5) := by rw [rateAt, cfg_cls h]; rfl
  rw [this]
  exact one_mod k0 k1 28 (by omega) i (by omega) (by omega) 5 (by omega) (by omega)
theorem cfg_ten {t : Nat} (ht : t < 6) : tnBad (tnR K t) = false := by
  have a1 := one_mod k0 k1 140 (by omega) t (by omega) (by omega) 9 (by omega) (by omega)
  have a2 := one_mod k0 k1 1260 (by omega) t (by omega) (by omega) 3 (by omega) (by omega)
  have b1 := mod_ix k0 k1 3780 (by omega) t (by omega) 4 (by omega)
  have b2 := mod_ix k0 k1 15120 (by omega) t (by omega) 4 (by omega)
  have b3 := mod_ix k0 k1 60480 (by omega) t (by omega) 3 (by omega)
  have c1 : ∀ a, a < 4 → out ([D.I 64, .I 8, .I 3, .I 20].getD a .Z).int 0 64 = false := by decide
  have c2 : ∀ a, a < 4 → out ([D.I 64, .I 5, .I 2, .I 12].getD a .Z).int 0 64 = false := by decide
  have c3 : ∀ a, a < 3 → out ([D.I 64, .I 2, .I 9].getD a .Z).int 0 64 = false := by decide
  have o1 : out (w (1 + (w (w (K.tdiv 140) + t)).tmod 9)) 1 64 = false := by
    simp only [out, Bool.or_eq_false_iff, ltB_false]; omega
  have o2 : out (w (1 + (w (w (K.tdiv 1260) + t)).tmod 3)) 0 4 = false := by
    simp only [out, Bool.or_eq_false_iff, ltB_false]; omega
  show (out (w (1 + (w (w (K.tdiv 140) + t)).tmod 9)) 1 64 || out (w (1 + (w (w (K.tdiv 1260) + t)).tmod 3)) 0 4 || out ([D.I 64, .I 8, .I 3, .I 20].getD ((w (w (K.tdiv 3780) + t)).tmod 4).toNat .Z).int 0 64 || out ([D.I 64, .I 5, .I 2, .I 12].getD ((w (w (K.tdiv 15120) + t)).tmod 4).toNat .Z).int 0 64 || out ([D.I 64, .I 2, .I 9].getD ((w (w (K.tdiv 60480) + t)).tmod 3).toNat .Z).int 0 64) = false
  rw [o1, o2, c1 _ (by omega), c2 _ (by omega), c3 _ (by omega)]; rfl
theorem cfg_hor : horBad (cfgD K) = false := by
  have h1 : 0 ≤ K.tdiv 181440 := Int.tdiv_nonneg k0 (by omega)
  have h2 : K.tdiv 181440 ≤ K := Int.tdiv_le_self _ k0
  show out (hoR K) 1 10000 = false
  rw [hoR, w_ok (n := K.tdiv 181440) (by omega) (by omega), Int.tmod_eq_emod_of_nonneg h1, w_ok (by omega) (by omega), wrap_u64 (by omega) (by omega)]
  simp only [out, Bool.or_eq_false_iff, ltB_false]; omega
end
theorem ruR_nth {J : Int} {N i k : Nat} (hk : k < 7) (h4 : k ≠ 4) : (ruR J N i).nth k = (ruR0 J N i).nth k := by
  rw [ruR]
  split
  · rfl
  · rw [D.puts_fld (ss := [i64, u64, u64, .bool, i64, i64, i64]) (i := 4) (s := i64) rfl, ofNth_nth, if_neg h4]
    exact hk
theorem ruR_kind {J : Int} {N i : Nat} : (ruR J N i).nth 4 = if anyR J i = true then D0 i64 else .I ((w ((jR J i).tdiv 7)).tmod 3) := by
  rw [ruR]
  split
  · rfl
  · rw [D.puts_fld (ss := [i64, u64, u64, .bool, i64, i64, i64]) (i := 4) (s := i64) rfl, ofNth_nth, if_pos rfl, D.puts_nil]
    decide
section
variable {J : Int} (j0 : 0 ≤ J) (j1 : J < 1099511627776) {i : Nat} (hi : i < 5)
include j0 j1 hi
/-- A part of the number that a rule is made of. -/
theorem jR_div (d : Int) (d1 : 1 ≤ d) (m : Int) (m1 : 1 ≤ m) : 0 ≤ (w ((jR J i).tdiv d)).tmod m ∧ (w ((jR J i).tdiv d)).tmod m < m := by
  have h := jR_range j0 j1 hi
  have h1 : 0 ≤ (jR J i).tdiv d := Int.tdiv_nonneg h.1 (by omega)
  have h2 : (jR J i).tdiv d ≤ jR J i := Int.tdiv_le_self _ h.1
  rw [w_ok (by omega) (by omega), Int.tmod_eq_emod_of_nonneg h1]
  exact ⟨Int.emod_nonneg _ (by omega), Int.emod_lt_of_pos _ (by omega)⟩
theorem ruR_owner (N : Nat) : 1 ≤ ((ruR J N i).nth 0).int ∧ ((ruR J N i).nth 0).int ≤ 4 := by
  have h := jR_div j0 j1 hi 5 (by omega) 4 (by omega)
  rw [ruR_nth (by decide) (by decide)]
  show 1 ≤ w (1 + (w ((jR J i).tdiv 5)).tmod 4) ∧ w (1 + (w ((jR J i).tdiv 5)).tmod 4) ≤ 4
  rw [w_ok (n := 1 + (w ((jR J i).tdiv 5)).tmod 4) (by omega) (by omega)]
  omega
theorem ruR_labels {N : Nat} (n1 : 1 ≤ N) (n5 : N ≤ 5) : ∃ a x y : Nat, a < 5 ∧ a < N ∧ x < 4 ∧ y < 2 ∧ ((ruR J N i).nth 1).int = bitsOp .or .u64 (labI a) (y : Int) ∧ ((ruR J N i).nth 2).int = bitsOp .and .u64 (labI a) (x : Int) := by
  have h := frR_range j0 j1 hi n1
  have hx := jR_div j0 j1 hi 40 (by omega) 4 (by omega)
  have hy := jR_div j0 j1 hi 20 (by omega) 2 (by omega)
  refine ⟨(frR J N i).toNat, ((w ((jR J i).tdiv 40)).tmod 4).toNat, ((w ((jR J i).tdiv 20)).tmod 2).toNat, by omega, by omega, by omega, by omega, ?_, ?_⟩
  · rw [ruR_nth (by decide) (by decide)]
    show bitsOp .or .u64 (labI (frR J N i).toNat) (IntKind.u64.wrap ((w ((jR J i).tdiv 20)).tmod 2)) = _
    rw [wrap_u64 (by omega) (by omega)]
    congr 1; omega
  · rw [ruR_nth (by decide) (by decide)]
    show bitsOp .and .u64 (labI (frR J N i).toNat) (IntKind.u64.wrap ((w ((jR J i).tdiv 40)).tmod 4)) = _
    rw [wrap_u64 (by omega) (by omega)]
    congr 1; omega
theorem ruR_kinds (N : Nat) : 0 ≤ ((ruR J N i).nth 4).int ∧ ((ruR J N i).nth 4).int ≤ 2 ∧ (((ruR J N i).nth 3).bool = true → ((ruR J N i).nth 4).int = 0) := by
  have h := jR_div j0 j1 hi 7 (by omega) 3 (by omega)
  have e3 : ((ruR J N i).nth 3).bool = anyR J i := by rw [ruR_nth (by decide) (by decide)]; rfl
  rw [ruR_kind, e3]
  split
  · exact ⟨by decide, by decide, fun _ => rfl⟩
  · rename_i hn
    simp only [D.int_I]
    exact ⟨by omega, by omega, fun h => absurd h hn⟩
theorem ruR_bounds (N : Nat) : ((ruR J N i).nth 5).int = -5 ∧ 3 ≤ ((ruR J N i).nth 6).int := by
  have h := jR_range j0 j1 hi
  have h1 : 0 ≤ (jR J i).tdiv 320 := Int.tdiv_nonneg h.1 (by omega)
  have h2 : (jR J i).tdiv 320 ≤ jR J i := Int.tdiv_le_self _ h.1
  rw [ruR_nth (by decide) (by decide), ruR_nth (by decide) (by decide)]
  refine ⟨rfl, ?_⟩
  show 3 ≤ w (3 + w ((jR J i).tdiv 320))
  rw [w_ok (n := (jR J i).tdiv 320) (by omega) (by omega), w_ok (by omega) (by omega)]
  omega
theorem ruR_right {N : Nat} (n1 : 1 ≤ N) (n5 : N ≤ 5) : ruF (ruR J N i) = 0 := by
  have a1 := ruR_owner j0 j1 hi N
  obtain ⟨a, x, y, ha, _, hx, hy, e1, e2⟩ := ruR_labels j0 j1 hi n1 n5
  have a2 := ruR_kinds j0 j1 hi N
  have a3 := ruR_bounds j0 j1 hi N
  have hb : badOwner (ruR J N i) = false := by
    have h3 : (((ruR J N i).nth 3).bool && ((ruR J N i).nth 4).int != 0) = false := by
      cases h : ((ruR J N i).nth 3).bool
      · rfl
      · rw [a2.2.2 h]; rfl
    simp only [badOwner, h3, Bool.or_false, Bool.or_eq_false_iff, ltB_false]
    omega
  have hl : belowB ((ruR J N i).nth 2).int ((ruR J N i).nth 1).int = true := by
    have : ∀ a, a < 5 → ∀ x, x < 4 → ∀ y, y < 2 → belowB (bitsOp .and .u64 (labI a) (x : Nat)) (bitsOp .or .u64 (labI a) (y : Nat)) = true := by decide
    rw [e1, e2]; exact this a ha x hx y hy
  rw [ruF, hb, hl]
  simp only [Bool.false_eq_true, Bool.true_eq_false, if_false]
  rw [if_neg (by omega)]
end
theorem labI_inj : ∀ i, i < 5 → ∀ k, k < 5 → labI i = labI k → i = k := by decide
/-- A configuration that is made of a number is right. -/
theorem cfg_right {K : Int} (k0 : 0 ≤ K) (k1 : K < 1099511627776) : chE (cfgD K) = 0 := by
  obtain ⟨n1, n5⟩ := cfgN_range k0
  obtain ⟨j0, j1⟩ := cfgJ_range k0 k1
  have hM : cfgM (cfgJ K) < 5 := by rw [cfgM, Int.tmod_eq_emod_of_nonneg j0]; omega
  rw [ch_ok, cfg_nC, cfg_nR]
  refine ⟨?_, ?_, ?_, ?_, cfg_hor k0 k1⟩
  · rw [fullB, cfg_nC, cfg_nR]
    simp only [Bool.or_eq_false_iff, ltB_false]; omega
  · intro k hk
    have b1 := cfg_size k0 k1 hk
    have b2 := cfg_rate k0 k1 hk
    have hb : clBad ((cls (cfgD K)).getD k .Z) = false := by
      show (out (sizeAt (cfgD K) k) 1 64 || out (rateAt (cfgD K) k) 0 64) = false
      simp only [out, Bool.or_eq_false_iff, ltB_false]; omega
    have hd : dupL (cls (cfgD K)) k = false := by
      simp only [dupL, List.any_eq_false, List.mem_range, beq_iff_eq]
      intro j hj e
      have e : labAt (cfgD K) j = labAt (cfgD K) k := e
      rw [cfg_lab (by omega), cfg_lab hk] at e
      have := labI_inj j (by omega) k (by omega) e
      omega
    rw [clE, clEL, hb, hd]; rfl
  · intro k hk
    have : (cfgD K).nth 1 = tnsR K 6 := rfl
    rw [tnE, this, tnsR_get K hk, cfg_ten k0 k1 hk]; rfl
  · intro k hk
    rw [ruE, cfg_rls hk]
    exact ruR_right j0 j1 (by omega) (by omega) n5
end Go.Proofs.Ytmdhmjidmiemmaa.Cf
