/- Cursors in plain Lean: what waits, and the first of it. -/
import Derived.Test.YtmdhmjidmiemmaaWQd
import Derived.Test.YtmdhmjidmiemmaaWTq
import Derived.Test.YtmdhmjidmiemmaaWTo
namespace Go.Proofs.Ytmdhmjidmiemmaa
open Go Go.Vm Rg
set_option linter.unusedSimpArgs false
set_option linter.unusedVariables false
set_option maxRecDepth 10000
theorem frQ_eq {s : D} (h : okRgs s) {i : Nat} (hi : i < nG s) (no : Int) : frQ (rgAt s i) no = (evs (rgAt s i)).filter fun x => leB no (noS x) := by
  have hc := h.2 i hi
  have hb := chk_bad hc
  have hcap := cap_le hb
  have hst := stI_le (rgAt s i) no
  have hno : ∀ k, k < cap (rgAt s i) → noS ((evs (rgAt s i)).getD k .Z) = ((rgAt s i).nth 2).int + k := fun k hk => by
    rw [evs_get hk]; exact (ev_id h hi hk).2
  have hst2 : stI (rgAt s i) no = ((rgAt s i).nth 2).int ∨ stI (rgAt s i) no = no := by
    unfold stI; split <;> simp
  have hI : (fromI (rgAt s i) no : Int) = stI (rgAt s i) no - ((rgAt s i).nth 2).int := by unfold fromI; omega
  rw [frQ, if_neg (by simp [hc])]
  rw [filter_drop (n := min (fromI (rgAt s i) no) (cap (rgAt s i))) (by rw [evs_len]; omega)]
  · apply List.ext_getElem
    · rw [List.length_drop, evs_len]
      simp only [fromL, List.length_map, List.length_range, fromN]
      omega
    · intro k h1 h2
      rw [List.getElem_drop]
      simp only [fromL, List.length_map, List.length_range, fromN] at h1
      simp only [fromL, evs, lst, List.getElem_map, List.getElem_range]
      congr 1
      omega
  · intro k hk
    rw [hno k (by omega), leB_false]; omega
  · intro k hk1 hk2
    rw [evs_len] at hk2
    rw [hno k hk2, leB_true]; omega
/-- Whether an event waits for a cursor. -/
def wQ (s c x : D) : Bool := (List.range (nG s)).any fun k => labG s k == lbS x && seeB s (cl c) k && leB (nxA c k) (noS x)
def wtR (s c : D) : List D := (mrg s).filter (wQ s c)
theorem wQ_at {s c : D} (h : stE s = 0) {i j : Nat} (hi : i < nG s) (hj : j < cap (rgAt s i)) : wQ s c (evAt (rgAt s i) j) = (seeB s (cl c) i && leB (nxA c i) (noS (evAt (rgAt s i) j))) := by
  obtain ⟨hok, hd, _, _⟩ := st_ok h
  have hid := (ev_id hok hi hj).1
  cases hb : (seeB s (cl c) i && leB (nxA c i) (noS (evAt (rgAt s i) j))) with
  | true =>
    refine anyQ_yes hi ?_
    rw [show lbS (evAt (rgAt s i) j) = labG s i from hid, beq_self_eq_true, Bool.true_and, hb]
  | false =>
    refine anyQ_no fun k hk => ?_
    rw [show lbS (evAt (rgAt s i) j) = labG s i from hid]
    cases hl : labG s k == labG s i with
    | false => rfl
    | true =>
      have e := lab_inj hd hi hk (by simpa using hl)
      subst e
      rw [Bool.true_and, hb]
def wtU (s c : D) : Nat → List D
  | 0 => []
  | i + 1 => wtU s c i ++ wtF s c i
theorem wtF_eq {s c : D} (h : stE s = 0) {i : Nat} (hi : i < nG s) : wtF s c i = (evs (rgAt s i)).filter (wQ s c) := by
  have hok := (st_ok h).1
  have hm : ∀ x, x ∈ evs (rgAt s i) → wQ s c x = (seeB s (cl c) i && leB (nxA c i) (noS x)) := fun x hx => by
    obtain ⟨j, hj, rfl⟩ := mem_getD hx
    rw [evs_len] at hj
    rw [evs_get hj]
    exact wQ_at h hi hj
  rw [List.filter_congr hm, wtF]
  cases hs : seeB s (cl c) i with
  | true => rw [if_pos rfl, frQ_eq hok hi]; simp
  | false => rw [if_neg (by simp)]; simp
theorem wtU_flat {s c : D} (h : stE s = 0) : ∀ {i : Nat}, i ≤ nG s → wtU s c i = (flat ((lsts s).take i)).filter (wQ s c)
  | 0, _ => rfl
  | i + 1, hi => by
    rw [wtU, wtU_flat h (Nat.le_of_lt hi), lsts_take s i hi, List.filter_append, wtF_eq h hi]
theorem wtU_perm {s c : D} (h : stE s = 0) : (wtR s c).Perm (wtU s c (nG s)) := by
  rw [wtU_flat h (Nat.le_refl _), List.take_of_length_le (by simp [lsts, nG])]
  exact (srt_perm (flat (lsts s))).filter _
theorem mrgQ_strict {s : D} (h : stE s = 0) : Strict keyO (mrg s) := by
  have hn := (st_ok h).2.2.2
  have hs := srt_sorted (key := keyO) (flat (lsts s))
  refine strict_of_adj fun i hi => ?_
  have h1 : keyO ((mrg s).getD i .Z) ≤ keyO ((mrg s).getD (i + 1) .Z) := sortK_le hs (by omega) hi
  have h2 : adjL (mrg s) = false := by
    unfold numE at hn
    split at hn
    · cases hn
    split at hn
    · cases hn
    · rename_i h3; simpa using h3
  rw [adjL, List.any_eq_false] at h2
  have h3 := h2 i (by rw [List.mem_range]; omega)
  simp only [adjB, Bool.or_eq_true, beq_iff_eq, not_or] at h3
  have h4 : ¬ keyO ((mrg s).getD (i + 1) .Z) = keyO ((mrg s).getD i .Z) := h3.1
  omega
theorem wtR_strict {s c : D} (h : stE s = 0) : Strict keyO (wtR s c) := List.Pairwise.filter _ (mrgQ_strict h)
theorem wtU_nodup {s c : D} (h : stE s = 0) : ((wtU s c (nG s)).map keyO).Nodup := ((wtU_perm h).map keyO).nodup_iff.1 (strict_nodup (wtR_strict h))
theorem wtR_srt {s c : D} (h : stE s = 0) : wtR s c = srt keyO (wtU s c (nG s)) :=
  srt_eq (wtU_nodup h) (wtU_perm h) ((wtR_strict h).imp fun h => by omega)
def wls (s c : D) : List (List D) := (List.range (nG s)).map (wtF s c)
theorem wls_get {s c : D} {i : Nat} (hi : i < nG s) : (wls s c).getD i [] = wtF s c i := by
  simp [wls, List.getD_eq_getElem?_getD, hi]
theorem fst_fst (s c : D) : ∀ {i : Nat}, i ≤ nG s → Fst keyO (wls s c) i (fstN s c i)
  | 0, _ => Fst.start _
  | i + 1, hi => by
    have ih := fst_fst s c (i := i) (by omega)
    have hr := fst_rng s c i
    rw [fstN]
    split
    · rename_i h
      refine ih.take (by rw [wls_get (by omega)]; exact h.1) ?_
      rcases hr with h1 | h1
      · exact .inl (by omega)
      · rw [wls_get (by omega), wls_get (by omega)]
        exact h.2
    · rename_i h
      refine ih.skip ?_
      rw [wls_get (by omega)]
      by_cases hw : wtF s c i = []
      · exact .inl hw
      · refine .inr ?_
        rcases hr with h1 | h1
        · exact absurd ⟨hw, .inl (by omega)⟩ h
        · rw [wls_get (by omega)]
          refine ⟨h1.1, ?_⟩
          have : ¬ keyO ((wtF s c i).getD 0 .Z) < keyO ((wtF s c (fstN s c i).toNat).getD 0 .Z) := fun h' => h ⟨hw, .inr h'⟩
          omega
theorem wtU_mem {s c : D} {x : D} : ∀ {n : Nat}, x ∈ wtU s c n ↔ ∃ k, k < n ∧ x ∈ wtF s c k
  | 0 => by simp [wtU]
  | n + 1 => by
    rw [wtU, List.mem_append, wtU_mem]
    constructor
    · rintro (⟨k, hk, hx⟩ | hx)
      · exact ⟨k, by omega, hx⟩
      · exact ⟨n, by omega, hx⟩
    · rintro ⟨k, hk, hx⟩
      by_cases e : k = n
      · subst e; exact .inr hx
      · exact .inl ⟨k, by omega, hx⟩
theorem wtF_sorted {s c : D} (h : stE s = 0) {i : Nat} (hi : i < nG s) : SortK keyO (wtF s c i) := by
  rw [wtF_eq h hi]; exact List.Pairwise.filter _ (evs_sorted ((st_ok h).1.2 i hi))
def fsQ (s c : D) : Int := fstN s c (nG s)
def fsX (s c : D) : D := (wtF s c (fsQ s c).toNat).getD 0 .Z
theorem fs_none {s c : D} (h : stE s = 0) (hf : fsQ s c < 0) : wtR s c = [] := by
  have hF := fst_fst s c (Nat.le_refl (nG s))
  have := (hF.none hf).2
  have hu : wtU s c (nG s) = [] := List.eq_nil_iff_forall_not_mem.2 fun x hx => by
    obtain ⟨k, hk, hx⟩ := wtU_mem.1 hx
    have := this k hk
    rw [wls_get hk] at this
    rw [this] at hx; cases hx
  have := wtU_perm (c := c) h
  rw [hu] at this
  exact this.eq_nil
theorem fs_some {s c : D} (h : stE s = 0) (hf : 0 ≤ fsQ s c) : fsQ s c < nG s ∧ fsX s c ∈ wtF s c (fsQ s c).toNat ∧ wtR s c ≠ [] ∧ (wtR s c).getD 0 .Z = fsX s c := by
  have hF := fst_fst s c (Nat.le_refl (nG s))
  have hf' : 0 ≤ fstN s c (nG s) := hf
  obtain ⟨h1, h2, h3⟩ := hF.some hf
  have hlt : (fstN s c (nG s)).toNat < nG s := by omega
  rw [wls_get hlt] at h2 h3
  have hx : fsX s c ∈ wtF s c (fsQ s c).toNat := getD_mem (List.length_pos_iff.2 h2)
  have hU : fsX s c ∈ wtU s c (nG s) := wtU_mem.2 ⟨_, hlt, hx⟩
  have hR : fsX s c ∈ wtR s c := (wtU_perm h).mem_iff.2 hU
  have hne : wtR s c ≠ [] := fun e => by rw [e] at hR; cases hR
  refine ⟨h1, hx, hne, ?_⟩
  have hS := wtR_strict (c := c) h
  have h0 : (wtR s c).getD 0 .Z ∈ wtR s c := getD_mem (List.length_pos_iff.2 hne)
  obtain ⟨k, hk, h0k⟩ := wtU_mem.1 ((wtU_perm h).mem_iff.1 h0)
  have h4 := h3 k hk (by rw [wls_get hk]; intro e; rw [e] at h0k; cases h0k)
  rw [wls_get hk] at h4
  obtain ⟨j, hj, ej⟩ := mem_getD h0k
  have h5 := sortK_le (wtF_sorted h hk) (Nat.zero_le j) hj
  rw [ej] at h5
  obtain ⟨m, hm, em⟩ := mem_getD hR
  have h6 : ∀ {a b : Nat}, a < b → b < (wtR s c).length → keyO ((wtR s c).getD a .Z) < keyO ((wtR s c).getD b .Z) := fun {a b} hab hb => by
    have := List.pairwise_iff_getElem.1 hS a b (by omega) hb hab
    simpa [List.getD_eq_getElem?_getD, hb, show a < (wtR s c).length by omega] using this
  by_cases hm0 : m = 0
  · rw [← em, hm0]
  · have h7 := h6 (Nat.pos_of_ne_zero hm0) hm
    rw [em] at h7
    have h8 : keyO (fsX s c) ≤ keyO ((wtF s c k).getD 0 .Z) := h4
    omega
theorem fsX_at {s c : D} (h : stE s = 0) (hf : 0 ≤ fsQ s c) : lbS (fsX s c) = labG s (fsQ s c).toNat ∧ seeB s (cl c) (fsQ s c).toNat = true ∧ nxA c (fsQ s c).toNat ≤ noS (fsX s c) ∧ ((rgAt s (fsQ s c).toNat).nth 2).int ≤ noS (fsX s c) ∧ noS (fsX s c) < ((rgAt s (fsQ s c).toNat).nth 3).int := by
  obtain ⟨h1, h2, _, _⟩ := fs_some h hf
  have hlt : (fsQ s c).toNat < nG s := by omega
  rw [wtF_eq h hlt, List.mem_filter] at h2
  obtain ⟨h3, h4⟩ := h2
  obtain ⟨j, hj, ej⟩ := mem_getD h3
  rw [evs_len] at hj
  rw [evs_get hj] at ej
  have hid := ev_id (st_ok h).1 hlt hj
  have hw := wQ_at (c := c) h hlt hj
  rw [← ej]
  rw [ej, h4, ← ej] at hw
  have hw := hw.symm
  rw [Bool.and_eq_true, leB_true] at hw
  have hcap := cap_le (chk_bad ((st_ok h).1.2 _ hlt))
  have h5 : noS (evAt (rgAt s (fsQ s c).toNat) j) = ((rgAt s (fsQ s c).toNat).nth 2).int + j := hid.2
  exact ⟨hid.1, hw.1, hw.2, by omega, by omega⟩
end Go.Proofs.Ytmdhmjidmiemmaa
