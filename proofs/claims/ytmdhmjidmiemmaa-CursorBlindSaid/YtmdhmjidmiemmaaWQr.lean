/- Cursors: CursorTakes. -/
import Derived.Test.YtmdhmjidmiemmaaWQq
namespace Go.Proofs.Ytmdhmjidmiemmaa
open Go Go.Vm Rg
set_option linter.unusedSimpArgs false
set_option linter.unusedVariables false
set_option maxRecDepth 10000
/-- Nothing is lost. -/
def NoLoss (s c : D) : Prop := ∀ k, k < nG s → lsB s c k = false
theorem lsT_zero {s c : D} : ∀ {n : Nat}, (∀ k, k < n → lsB s c k = false) → lsT s c n = 0
  | 0, _ => rfl
  | n + 1, h => by rw [lsT, h n (by omega), if_neg (by decide), lsT_zero fun k hk => h k (by omega)]
theorem mrg_at {s x : D} (hx : x ∈ mrg s) : ∃ i, i < nG s ∧ ∃ j, j < cap (rgAt s i) ∧ evAt (rgAt s i) j = x := mem_flat.1 ((srt_perm _).mem_iff.1 hx)
theorem wQ_of {s c : D} (F : Fits s c) {i j : Nat} (hi : i < nG s) (hj : j < cap (rgAt s i)) : wQ s c (evAt (rgAt s i) j) = (seeB s (cl c) i && leB (nxA c i) (fiA s i + j)) := by
  rw [wQ_at F.st hi hj]
  have : noS (evAt (rgAt s i) j) = fiA s i + j := (ev_id (st_ok F.st).1 hi hj).2
  rw [this]
section
variable {s c : D} (F : Fits s c)
include F
/-! ### Skipping -/
theorem sk_nx : cl (skQ s c) = cl c ∧ nx (skQ s c) = skL s c := by rw [← skQ_yes F.ck]; exact ⟨rfl, rfl⟩
theorem sk_nxA {k : Nat} (hk : k < nG s) : nxA (skQ s c) k = if seeB s (cl c) k = true then (if fiA s k > nxA c k then fiA s k else nxA c k) else nxA c k := by
  rw [nxA, (sk_nx F).2, skL, upd_get hk]
  by_cases hb : seeB s (cl c) k = true
  · rw [if_pos ⟨hk, hb⟩, if_pos hb]; rfl
  · rw [if_neg (fun h => hb h.2), if_neg hb]; rfl
theorem sk_fits : Fits s (skQ s c) := by
  have e := sk_nx F
  refine ⟨F.st, by rw [e.2, skL_len], fun k hk hb => ?_, fun k hk hb => ?_⟩
  · rw [e.1] at hb
    rw [sk_nxA F hk, if_neg (by simp [hb])]
    exact F.no k hk hb
  · rw [e.1] at hb
    rw [sk_nxA F hk, if_pos hb]
    have h1 := F.yes k hk hb
    have h2 := ring_ok F.st hk
    split <;> omega
theorem sk_none : NoLoss s (skQ s c) := fun k hk => by
  rw [lsB, (sk_nx F).1]
  cases hb : seeB s (cl c) k with
  | false => rfl
  | true =>
    rw [Bool.true_and, ltB_false, sk_nxA F hk, if_pos hb]
    change fiA s k ≤ _
    split <;> omega
theorem sk_wt : wtR s (skQ s c) = wtR s c := by
  rw [wtR, wtR]
  refine List.filter_congr fun x hx => ?_
  obtain ⟨i, hi, j, hj, rfl⟩ := mrg_at hx
  rw [wQ_of (sk_fits F) hi hj, wQ_of F hi hj, (sk_nx F).1]
  cases hb : seeB s (cl c) i with
  | false => rfl
  | true =>
    rw [Bool.true_and, Bool.true_and, sk_nxA F hi, if_pos hb]
    split
    · rw [show leB (fiA s i) (fiA s i + j) = true by rw [leB_true]; omega, show leB (nxA c i) (fiA s i + j) = true by rw [leB_true]; omega]
    · rfl
/-! ### Taking -/
theorem tk_e (hz : NoLoss s c) (hne : wtR s c ≠ []) : tkE s c = 0 := tkE_0 F.ck (by rw [lsT_zero hz]; rfl) hne
theorem tk_nx (hz : NoLoss s c) (hne : wtR s c ≠ []) : cl (tkC s c) = cl c ∧ nx (tkC s c) = tkU s c (nG s) := by
  rw [tkC, if_neg (by simp [tk_e F hz hne])]; exact ⟨rfl, rfl⟩
theorem tk_pos (hne : wtR s c ≠ []) : 0 ≤ fsQ s c := by
  by_cases h : fsQ s c < 0
  · exact absurd (fs_none F.st h) hne
  · omega
theorem tk_nxA (hz : NoLoss s c) (hne : wtR s c ≠ []) {k : Nat} (hk : k < nG s) : nxA (tkC s c) k = if k = (fsQ s c).toNat then noS (fsX s c) + 1 else nxA c k := by
  have h0 := tk_pos F hne
  have hs := fs_some F.st h0
  have ha := fsX_at F.st h0
  have hlt : (fsQ s c).toNat < nG s := by omega
  have hr := ring_ok F.st hlt
  rw [nxA, (tk_nx F hz hne).2, tkU, upd_get hk, hs.2.2.2, ha.1]
  by_cases h : k = (fsQ s c).toNat
  · rw [if_pos h, if_pos ⟨hk, by rw [h]; simp⟩]
    have h5 := ha.2.2.2.1
    have h6 : noS (fsX s c) < nxR s (fsQ s c).toNat := ha.2.2.2.2
    have h7 : fiA s (fsQ s c).toNat ≤ noS (fsX s c) := ha.2.2.2.1
    exact wrap_u64 (by omega) (by omega)
  · rw [if_neg h, if_neg]
    · rfl
    · rintro ⟨_, h2⟩
      exact h (lab_inj (st_ok F.st).2.1 hlt hk (by simpa using h2))
theorem tk_fits (hz : NoLoss s c) (hne : wtR s c ≠ []) : Fits s (tkC s c) := by
  have h0 := tk_pos F hne
  have hs := fs_some F.st h0
  have ha := fsX_at F.st h0
  have e := tk_nx F hz hne
  have hlt : (fsQ s c).toNat < nG s := by omega
  have hr := ring_ok F.st hlt
  have h6 : noS (fsX s c) < nxR s (fsQ s c).toNat := ha.2.2.2.2
  have h7 : fiA s (fsQ s c).toNat ≤ noS (fsX s c) := ha.2.2.2.1
  refine ⟨F.st, by rw [e.2, tkU, upd_len], fun k hk hb => ?_, fun k hk hb => ?_⟩
  · rw [e.1] at hb
    rw [tk_nxA F hz hne hk, if_neg (fun h => by rw [h, ha.2.1] at hb; cases hb)]
    exact F.no k hk hb
  · rw [e.1] at hb
    rw [tk_nxA F hz hne hk]
    have h1 := F.yes k hk hb
    split
    · rename_i h; rw [h]; omega
    · exact h1
theorem tk_none (hz : NoLoss s c) (hne : wtR s c ≠ []) : NoLoss s (tkC s c) := fun k hk => by
  have h0 := tk_pos F hne
  have ha := fsX_at F.st h0
  have hzk := hz k hk
  rw [lsB, (tk_nx F hz hne).1]
  rw [lsB] at hzk
  cases hb : seeB s (cl c) k with
  | false => rfl
  | true =>
    rw [hb, Bool.true_and, ltB_false] at hzk
    rw [Bool.true_and, ltB_false, tk_nxA F hz hne hk]
    split
    · rename_i h
      have := ha.2.2.2.1
      rw [h]; omega
    · exact hzk
theorem tk_wt (hz : NoLoss s c) (hne : wtR s c ≠ []) : wtR s (tkC s c) = (wtR s c).drop 1 := by
  have h0 := tk_pos F hne
  have hs := fs_some F.st h0
  have ha := fsX_at F.st h0
  have hlt : (fsQ s c).toNat < nG s := by omega
  have F2 := tk_fits F hz hne
  have hS := wtR_strict (c := c) F.st
  have e1 : wtR s (tkC s c) = (wtR s c).filter (wQ s (tkC s c)) := by
    rw [wtR, wtR, List.filter_filter]
    refine List.filter_congr fun x hx => ?_
    obtain ⟨i, hi, j, hj, rfl⟩ := mrg_at hx
    rw [wQ_of F2 hi hj, wQ_of F hi hj, (tk_nx F hz hne).1, tk_nxA F hz hne hi]
    cases hb : seeB s (cl c) i with
    | false => rfl
    | true =>
      simp only [Bool.true_and]
      split
      · rename_i h
        have h1 := ha.2.2.1
        rw [← h] at h1
        by_cases h2 : noS (fsX s c) + 1 ≤ fiA s i + j
        · rw [show leB (noS (fsX s c) + 1) (fiA s i + j) = true by rw [leB_true]; exact h2, show leB (nxA c i) (fiA s i + j) = true by rw [leB_true]; omega]; rfl
        · rw [show leB (noS (fsX s c) + 1) (fiA s i + j) = false by rw [leB_false]; omega]; rfl
      · rw [Bool.and_self]
  obtain ⟨x0, rest, hR⟩ : ∃ x0 rest, wtR s c = x0 :: rest := by
    cases h : wtR s c with
    | nil => exact absurd h hne
    | cons a b => exact ⟨a, b, rfl⟩
  have hx0 : x0 = fsX s c := by rw [← hs.2.2.2, hR]; rfl
  rw [e1, hR, List.drop_succ_cons, List.drop_zero]
  have hmem : ∀ y, y ∈ wtR s c → y ∈ mrg s ∧ wQ s c y = true := fun y hy => List.mem_filter.1 hy
  have hX := hmem x0 (by rw [hR]; exact List.mem_cons_self)
  obtain ⟨i0, hi0, j0, hj0, hE0⟩ := mrg_at hX.1
  have hid0 := ev_id (st_ok F.st).1 hi0 hj0
  have hi0p : i0 = (fsQ s c).toNat := by
    have h1 : lbS x0 = labG s i0 := by rw [← hE0]; exact hid0.1
    rw [hx0, ha.1] at h1
    exact lab_inj (st_ok F.st).2.1 hlt hi0 h1.symm
  have hn0 : noS (fsX s c) = fiA s i0 + j0 := by rw [← hx0, ← hE0]; exact hid0.2
  have hno : wQ s (tkC s c) x0 = false := by
    rw [← hE0, wQ_of F2 hi0 hj0, tk_nxA F hz hne hi0, if_pos hi0p, hn0, show leB (fiA s i0 + j0 + 1) (fiA s i0 + j0) = false by rw [leB_false]; omega, Bool.and_false]
  rw [List.filter_cons_of_neg (by rw [hno]; decide)]
  refine List.filter_eq_self.2 fun y hy => ?_
  have hY := hmem y (by rw [hR]; exact List.mem_cons_of_mem _ hy)
  rw [hR] at hS
  have hlt0 : keyO x0 < keyO y := (List.pairwise_cons.1 hS).1 y hy
  obtain ⟨i, hi, j, hj, hE⟩ := mrg_at hY.1
  have hw := hY.2
  rw [← hE, wQ_of F hi hj] at hw
  rw [← hE, wQ_of F2 hi hj, tk_nxA F hz hne hi, (tk_nx F hz hne).1]
  split
  · rename_i h
    rw [Bool.and_eq_true] at hw
    rw [hw.1, Bool.true_and, leB_true, hn0]
    have e : i = i0 := by rw [h, hi0p]
    subst e
    by_cases hj2 : j ≤ j0
    · exfalso
      have h3 := sortK_le (evs_sorted ((st_ok F.st).1.2 i hi)) hj2 (by rw [evs_len]; exact hj0)
      rw [evs_get hj, evs_get hj0, hE, hE0] at h3
      omega
    · omega
  · exact hw
/-! ### Nothing left -/
theorem end_nx (hz : NoLoss s c) (hn : wtR s c = []) {k : Nat} (hk : k < nG s) : nxA c k = if seeB s (cl c) k = true then nxR s k else 0 := by
  by_cases hb : seeB s (cl c) k = true
  · rw [if_pos hb]
    have h1 := wtF_length F hk
    have h2 : wtF s c k = [] := List.eq_nil_iff_forall_not_mem.2 fun x hx => by
      have h3 := (wtU_perm F.st).mem_iff.2 (wtU_mem.2 ⟨k, hk, hx⟩)
      rw [hn] at h3; cases h3
    have h3 : loR s c k = 0 := by rw [loR, hz k hk]; rfl
    rw [h2, h3, if_pos hb] at h1
    simp only [List.length_nil] at h1
    omega
  · rw [if_neg hb]
    exact F.no k hk (by simpa using hb)
theorem end_same (hz : NoLoss s c) (hn : wtR s c = []) : sameC c (newQ s (cl c)) = true := by
  have e := newQ_nx (l := cl c) F.st
  rw [sameC, e.1, beq_self_eq_true, Bool.true_and, sameL, F.len, e.2, nwQ, upd_len, beq_self_eq_true, Bool.true_and]
  refine all_range fun k hk => ?_
  have h1 := newQ_nxA (l := cl c) F.st hk
  rw [nxA, e.2, nwQ] at h1
  have h2 := end_nx F hz hn hk
  have : ((nx c).getD k .Z).int = ((upd (fun _ => .I 0) (fun k => .I ((rgAt s k).nth 3).int) (seeB s (cl c)) (nG s) (nG s)).getD k .Z).int := by rw [h1]; exact h2
  show eqD u64 _ _ = true
  simp only [eqD, beq_iff_eq]
  exact this
end
def tkN (s c : D) : Nat → D
  | 0 => c
  | k + 1 => tkC s (tkN s c k)
theorem tkN_inv {s c : D} (F : Fits s c) (hz : NoLoss s c) : ∀ {k : Nat}, k ≤ (wtR s c).length → Fits s (tkN s c k) ∧ NoLoss s (tkN s c k) ∧ wtR s (tkN s c k) = (wtR s c).drop k ∧ cl (tkN s c k) = cl c
  | 0, _ => ⟨F, hz, rfl, rfl⟩
  | k + 1, hk => by
    obtain ⟨F1, z1, w1, c1⟩ := tkN_inv F hz (k := k) (by omega)
    have hne : wtR s (tkN s c k) ≠ [] := by
      rw [w1]; intro h
      have := congrArg List.length h
      rw [List.length_drop, List.length_nil] at this; omega
    refine ⟨tk_fits F1 z1 hne, tk_none F1 z1 hne, ?_, ?_⟩
    · rw [tkN, tk_wt F1 z1 hne, w1, List.drop_drop]
    · rw [tkN, (tk_nx F1 z1 hne).1, c1]
end Go.Proofs.Ytmdhmjidmiemmaa
