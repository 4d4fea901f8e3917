/- Gates in plain Lean: what keeps one right. -/
import Derived.Test.YtpfpgjkbnjnjnaaWMi
import Derived.Test.YtpfpgjkbnjnjnaaWCp
import Derived.Test.YtpfpgjkbnjnjnaaWTz
namespace Go.Proofs.Ytpfpgjkbnjnjnaa
open Go Go.Vm Rg
set_option linter.unusedSimpArgs false
set_option linter.unusedVariables false
set_option maxRecDepth 10000
/-! ### Errors -/
theorem ru_ok {r : D} (h : Cf.ruF r = 0) : Ru.checkF r = 0 := by
  unfold Cf.ruF at h
  split at h
  · cases h
  split at h
  · cases h
  split at h
  · cases h
  rename_i h1 h2 h3
  have e1 : Ru.badOwner r = false := by
    have : ¬ Ru.badOwner r = true := h1
    simpa using this
  have e2 : Ru.belowB (r.nth 2).int (r.nth 1).int = true := by
    have : ¬ Ru.belowB (r.nth 2).int (r.nth 1).int = false := h2
    simpa using this
  simp [Ru.checkF, Ru.partF, e1, e2, h3]
theorem ru_at {c : D} (h : Cf.chE c = 0) {k : Nat} (hk : k < Cf.nR c) : Ru.checkF (Cf.rlsAt c k) = 0 := ru_ok ((Cf.ch_ok.1 h).2.2.2.1 k hk)
theorem rel_in {r e : D} (h : Ru.checkF r = 0) : Ru.relErr r e = 0 ∨ Ru.relErr r e = 7 ∨ Ru.relErr r e = 11 := by
  have hb : Ru.bothF r e = 0 ∨ Ru.bothF r e = 11 := by
    rw [Ru.bothF, if_neg (by simp [h]), Ru.eventF]
    split
    · exact .inr rfl
    · exact .inl rfl
  unfold Ru.relErr
  split
  · rcases hb with hb | hb
    · rename_i h1; exact absurd hb h1
    · exact .inr (.inr hb)
  split
  · exact .inr (.inl rfl)
  split
  · exact .inr (.inr rfl)
  · exact .inl rfl
theorem fd_in {c g d : D} {n : Int} (h : gkE c g = 0) (h0 : 0 ≤ n) (h1 : n < Cf.nR c) : fdE c g n d = 0 ∨ fdE c g n d = 7 ∨ fdE c g n d = 11 := by
  rw [(fd_0 h).1, ffE]
  rw [if_neg (by rw [outB, Bool.or_eq_true, ltB_true, leB_true]; omega)]
  split
  · exact .inr (.inl rfl)
  split
  · exact .inr (.inl rfl)
  · exact rel_in (ru_at (gk_ok h).1 (by omega))
theorem ev_0 {T f : D} (h : stE T = 0) (hn : 0 ≤ (T.nth 1).int ∧ 0 ≤ (T.nth 2).int ∧ 0 ≤ (T.nth 3).int) (h1 : evC f = 0) (h2 : cE T (labE f) = 0) (h3 : (T.nth 1).int < 1099511627776) :
    evF ((rgE T f).nth 0).int ((rgE T f).nth 3).int (newD (rgE T f) (arr1 T) (T.nth 2).int (f.nth 1).int (f.nth 2).int) (bef (rgE T f) (cap (rgE T f))) = 0 := by
  have hr := st_rng h
  have hc := (cN_lt h2).2.2.2
  have hb : (bef (rgE T f) (cap (rgE T f))).nth 1 = .I 0 ∧ (bef (rgE T f) (cap (rgE T f))).nth 2 = .I 0 ∨ bef (rgE T f) (cap (rgE T f)) ∈ mrg T := by
    cases hcap : cap (rgE T f) with
    | zero => exact .inl ⟨rfl, rfl⟩
    | succ m =>
      refine .inr ((srt_perm _).mem_iff.2 (mem_flat.2 ⟨_, hc, m, ?_, rfl⟩))
      show m < cap (rgE T f)
      omega
  have hbb : ((bef (rgE T f) (cap (rgE T f))).nth 1).int < arr1 T ∧ ((bef (rgE T f) (cap (rgE T f))).nth 2).int ≤ (T.nth 2).int := by
    rw [arr1]
    rcases hb with ⟨e1, e2⟩ | hb
    · rw [e1, e2]
      show (0 : Int) < (T.nth 1).int + 1 ∧ (0 : Int) ≤ (T.nth 2).int
      omega
    · have hk := Tw.mrg_key' h hb
      have : keyO (bef (rgE T f) (cap (rgE T f))) = ((bef (rgE T f) (cap (rgE T f))).nth 1).int := rfl
      omega
  obtain ⟨b, hbe⟩ : ∃ b, b = bef (rgE T f) (cap (rgE T f)) := ⟨_, rfl⟩
  rw [← hbe] at hbb ⊢
  have k1 : (ltB (f.nth 1).int 0 || ltB 25 (f.nth 1).int) = false := by
    rw [evC] at h1
    split at h1
    · cases h1
    · rename_i hh
      simp only [Bool.or_eq_true, ltB_true, leB_true, not_or] at hh
      simp only [Bool.or_eq_false_iff, ltB_false]; omega
  show (if eqD idS (idD ((rgE T f).nth 0).int ((rgE T f).nth 3).int) (idD ((rgE T f).nth 0).int ((rgE T f).nth 3).int) = false then (3 : Int)
    else if (ltB (f.nth 1).int 0 || ltB 25 (f.nth 1).int) = true then 11
    else if (ltB (arr1 T) 1 || ltB 1099511627776 (arr1 T) || ltB 1099511627776 (T.nth 2).int) = true then 2
    else if (leB (arr1 T) (b.nth 1).int || ltB (T.nth 2).int (b.nth 2).int) = true then 9 else 0) = 0
  have kid : ∀ a b : Int, eqD idS (idD a b) (idD a b) = true := fun a b => (eqId _ _).2 ⟨rfl, rfl⟩
  rw [kid, if_neg (by decide), if_neg (by rw [k1]; decide), if_neg ?_, if_neg ?_]
  · simp only [Bool.or_eq_true, ltB_true, leB_true, not_or]; omega
  · simp only [Bool.or_eq_true, ltB_true, not_or]; rw [arr1]; omega
/-- What a put into a right store may answer, and when. -/
theorem put_is {T f : D} (h : stE T = 0) (hn : 0 ≤ (T.nth 1).int ∧ 0 ≤ (T.nth 2).int ∧ 0 ≤ (T.nth 3).int) (h1 : evC f = 0) (h2 : cE T (labE f) = 0) (h3 : (T.nth 1).int < 1099511627776) :
    putTE T f = if ((cap (rgE T f) : Int) == ((rgE T f).nth 1).int || ltB 1099511627776 ((rgE T f).nth 3).int) = true then 6 else 0 := by
  have hc := (cN_lt h2).2.2.2
  have hchk : chk (rgE T f) = 0 := (st_ok h).1.2 _ hc
  rw [putTE, ite0 h, if_neg (by rw [h1]; decide), if_neg (by rw [h2]; decide), if_neg (by simp only [leB_true]; omega)]
  rw [putE, if_neg (by rw [hchk]; decide), if_neg (by rw [ev_0 h hn h1 h2 h3]; decide)]
theorem ev_good {e : D} (h : evBad e = false) : evC e = 0 := by
  simp only [evBad, Bool.or_eq_false_iff, ltB_false] at h
  rw [evC, if_neg]
  simp only [Bool.or_eq_true, ltB_true, leB_true, not_or]; omega
theorem ev_kind {e : D} (h0 : 0 ≤ (e.nth 1).int) (h1 : (e.nth 1).int ≤ 25) : evBad e = false := by
  simp only [evBad, Bool.or_eq_false_iff, ltB_false]; omega
/-! ### Right gates -/
theorem gk_mk {c g : D} (h1 : Cf.chE c = 0) (h2 : stE (gS g) = 0) (h3 : nG (gS g) = Cf.nC c) (h4 : ((gS g).nth 3).int = (c.nth 3).int) (h5 : ∀ i, i < Cf.nC c → labG (gS g) i = Cf.labAt c i ∧ szG (gS g) i = Cf.sizeAt c i) (h6 : Cf.qk c (gR g) = 0) : gkE c g = 0 := by
  rw [gk_5 h1 h2 ?_ ?_]
  · exact h6
  · rw [lenBad, h3, h4]; simp
  · intro i hi
    rw [okAt, (h5 i hi).1, (h5 i hi).2]; simp
theorem gk_nG {c g : D} (h : gkE c g = 0) : nG (gS g) = Cf.nC c ∧ ((gS g).nth 3).int = (c.nth 3).int := by
  have h1 := (gk_ok h).2.2.1
  simp only [lenBad, Bool.or_eq_false_iff, bne_eq_false_iff_eq] at h1
  exact ⟨by omega, h1.2⟩
theorem gk_at {c g : D} (h : gkE c g = 0) {i : Nat} (hi : i < Cf.nC c) : labG (gS g) i = Cf.labAt c i ∧ szG (gS g) i = Cf.sizeAt c i := by
  have h1 := (gk_ok h).2.2.2.1
  simp only [fitB, List.all_eq_true, List.mem_range] at h1
  have h2 := h1 i hi
  simp only [okAt, Bool.and_eq_true, beq_iff_eq] at h2
  exact h2
structure GInv (c g : D) (i : Nat) : Prop where
  gk : gkE c g = 0
  inv : Tw.InvM (gS g, []) i
  arr : ((gS g).nth 1).int ≤ i
theorem GInv.skip {c g : D} {i : Nat} (I : GInv c g i) : GInv c g (i + 1) := ⟨I.gk, Tw.inv_skip I.inv, by have := I.arr; omega⟩
theorem cE_of {s : D} {L : Int} {i : Nat} (hi : i < nG s) (h : labG s i = L) : cE s L = 0 := by
  rw [cE, if_pos]
  apply Classical.byContradiction
  intro hn
  have h1 := (Cf.fi_spec (f := isC s L) (m := nG s) (i := 0)).1 i (Nat.zero_le _) (by show i < cI s L; omega)
  rw [isC, if_pos (by rw [h]; exact beq_self_eq_true L)] at h1
  cases h1
theorem cI_of {s : D} (h : stE s = 0) {L : Int} {i : Nat} (hi : i < nG s) (hl : labG s i = L) : cI s L = i := by
  have h1 := (cN_lt (cE_of hi hl)).2.2.2
  exact lab_inj (st_ok h).2.1 hi h1 (by rw [cI_is h1, hl])
theorem use_cls {c g : D} {L : Int} (h : gkE c g = 0) (hu : Cf.useX c (gR g) L = 0) : Cf.fl c L < Cf.nC c ∧ Cf.labAt c (Cf.fl c L) = L ∧ cI (gS g) L = Cf.fl c L ∧ cE (gS g) L = 0 := by
  have h1 := (Cf.bothX_0 (Cf.useX_both hu).1).2.1
  have h2 := Cf.fl_spec h1
  have h3 : labG (gS g) (Cf.fl c L) = L := (gk_at h h1).1.trans h2
  have h4 : Cf.fl c L < nG (gS g) := by rw [(gk_nG h).1]; exact h1
  exact ⟨h1, h2, cI_of (gk_ok h).2.1 h4 h3, cE_of h4 h3⟩
theorem pa_is {c g e : D} {i : Nat} (I : GInv c g i) (hi : i ≤ 100) (h0 : evBad e = false) (hu : Cf.useX c (gR g) (e.nth 0).int = 0) :
    paE c g e = if ((cap (rgE (gS g) e) : Int) == ((rgE (gS g) e).nth 1).int || ltB 1099511627776 ((rgE (gS g) e).nth 3).int) = true then 6 else 0 := by
  have ha := I.arr
  rw [pa_3 h0 hu]
  exact put_is I.inv.ok I.inv.nn (ev_good h0) (use_cls I.gk hu).2.2.2 (by omega)
theorem pa_in {c g e : D} {i : Nat} (I : GInv c g i) (hi : i ≤ 100) : paE c g e = 0 ∨ paE c g e = 11 ∨ paE c g e = 14 ∨ paE c g e = 15 ∨ paE c g e = 6 := by
  cases h0 : evBad e with
  | true => exact .inr (.inl (pa_1 h0).1)
  | false =>
    by_cases hu : Cf.useX c (gR g) (e.nth 0).int = 0
    · rw [pa_is I hi h0 hu]
      split
      · exact .inr (.inr (.inr (.inr rfl)))
      · exact .inl rfl
    · rw [(pa_2 h0 hu).1]
      rcases Cf.useX_in (gk_ok I.gk).2.2.2.2 (e.nth 0).int with h | h | h
      · exact absurd h hu
      · exact .inr (.inr (.inl h))
      · exact .inr (.inr (.inr (.inl h)))
theorem pa_parts {c g e : D} (h : paE c g e = 0) : evBad e = false ∧ Cf.useX c (gR g) (e.nth 0).int = 0 ∧ putTE (gS g) e = 0 ∧ paG c g e = .L [putT (gS g) e, Cf.useU c (gR g) (e.nth 0).int] ∧ paX c g e = putX (gS g) e := by
  have h0 : evBad e = false := by
    cases hb : evBad e with
    | false => rfl
    | true => rw [(pa_1 hb).1] at h; cases h
  have h1 : Cf.useX c (gR g) (e.nth 0).int = 0 := by
    apply Classical.byContradiction
    intro hn
    rw [(pa_2 h0 hn).1] at h
    exact hn h
  have h2 : putTE (gS g) e = 0 := by rw [← pa_3 h0 h1]; exact h
  exact ⟨h0, h1, h2, (pa_0 h0 h1 h2).2⟩
theorem g_put {c g e : D} {i : Nat} (I : GInv c g i) (h : paE c g e = 0) : GInv c (paG c g e) (i + 1) := by
  obtain ⟨h0, h1, h2, h3, _⟩ := pa_parts h
  have hs := I.inv.nn
  have hk := I.inv.ok
  have ha := I.arr
  obtain ⟨p1, p2, p3, p4⟩ := pu_rgs hs hk h2
  rw [h3]
  refine ⟨gk_mk (gk_ok I.gk).1 (pu_right hs hk h2) ((pu_nG hs hk h2).trans (gk_nG I.gk).1) (by show ((putT (gS g) e).nth 3).int = _; rw [p4]; exact (gk_nG I.gk).2) (fun k hk' => ?_) (Cf.useU_ok h1), ?_, ?_⟩
  · have h4 := gk_at I.gk hk'
    refine ⟨(pu_lab hs hk h2 k).trans h4.1, ?_⟩
    show ((rgAt (putT (gS g) e) k).nth 1).int = _
    rw [pu_at hs hk h2 k (by rw [(gk_nG I.gk).1]; exact hk'), ← h4.2]
    split
    · rename_i e1
      rw [(putD_0 _ _).2.1, rgE, ← e1]; rfl
    · rfl
  · have := Tw.inv_put I.inv h2
    exact ⟨this.ok, this.nn, this.tk, Nat.zero_le _⟩
  · show ((putT (gS g) e).nth 1).int ≤ _
    rw [p2, arr1]
    show ((gS g).nth 1).int + 1 ≤ ((i + 1 : Nat) : Int)
    omega
theorem g_tick {c g : D} {i : Nat} (I : GInv c g i) (hi : i ≤ 30) : tkE c g = 0 ∧ tkG c g = .L [tickT (gS g), Cf.newU c] ∧ GInv c (tkG c g) (i + 1) := by
  have ht := I.inv.tickE hi
  have h := tk_0 I.gk ht
  have hs := I.inv.nn
  have hk := I.inv.ok
  have ha := I.arr
  obtain ⟨p1, p2, p3, p4⟩ := ti_rgs hs hk ht
  refine ⟨h.1, h.2.1, ?_⟩
  rw [h.2.1]
  refine ⟨gk_mk (gk_ok I.gk).1 (ti_right hs hk ht) ((ti_nG hs hk ht).trans (gk_nG I.gk).1) (by show ((tickT (gS g)).nth 3).int = _; rw [p4]; exact (gk_nG I.gk).2) (fun k hk' => ?_) (Cf.newU_ok (gk_ok I.gk).1), ?_, ?_⟩
  · have h4 := gk_at I.gk hk'
    refine ⟨(ti_lab hs hk ht k).trans h4.1, ?_⟩
    show ((rgAt (tickT (gS g)) k).nth 1).int = _
    rw [ti_at hs hk ht k (by rw [(gk_nG I.gk).1]; exact hk'), ← h4.2, tickRg, (evR_0 _ _).2.1]; rfl
  · have := Tw.inv_tick I.inv hi
    exact ⟨this.ok, this.nn, this.tk, Nat.zero_le _⟩
  · show ((tickT (gS g)).nth 1).int ≤ _
    rw [p2]; exact Int.le_trans ha (by omega)
theorem g_new {c : D} (h : Cf.chE c = 0) : GInv c (gN c) 0 := by
  have e : gN c = .L [newT c, Cf.newU c] := if_neg fun k => k h
  obtain ⟨h1, h2, h3, h4⟩ := Tw.nt_rgs h
  have I := Tw.inv_mdR h [] (i := 0) (by omega)
  rw [e]
  refine ⟨gk_mk h (Tw.nt_right h) (Tw.nt_nG h) h4 (fun k hk => ?_) (Cf.newU_ok h), ⟨I.ok, I.nn, I.tk, Nat.zero_le _⟩, by show ((newT c).nth 1).int ≤ _; omega⟩
  show labG (newT c) k = _ ∧ szG (newT c) k = _
  have hc := (Cf.ch_ok.1 h).2.1 k hk
  have hb : Cf.clBad (Cf.clsAt c k) = false := by
    by_cases hb : Cf.clBad (Cf.clsAt c k) = true
    · rw [Cf.clE_2 hb] at hc; cases hc
    · simpa using hb
  simp only [Cf.clBad, Cf.out, Bool.or_eq_false_iff, ltB_false] at hb
  rw [labG, szG, Tw.nt_at h hk, newR, if_neg]
  · exact ⟨rfl, rfl⟩
  · show ¬ (ltB (Cf.sizeAt c k) 1 || ltB 64 (Cf.sizeAt c k)) = true
    have h5 : ¬ (Cf.sizeAt c k < 1) ∧ ¬ (64 < Cf.sizeAt c k) := by
      have := hb.1
      exact ⟨by simp only [Cf.sizeAt]; omega, by simp only [Cf.sizeAt]; omega⟩
    simp only [Bool.or_eq_true, ltB_true]; omega
theorem rl_parts {c g d : D} {n : Int} (h : rlE c g n d = 0) : fdE c g n d = 0 ∧ paE c g (fdV c g n d) = 0 ∧ rlG c g n d = paG c g (fdV c g n d) := by
  have h1 : fdE c g n d = 0 := by
    apply Classical.byContradiction
    intro hn
    rw [(rl_1 hn).1] at h; exact hn h
  have h2 : paE c g (fdV c g n d) = 0 := by
    apply Classical.byContradiction
    intro hn
    rw [(rl_2 h1 hn).1] at h; exact hn h
  exact ⟨h1, h2, (rl_0 h1 h2).2.1⟩
theorem g_rel {c g d : D} {n : Int} {i : Nat} (I : GInv c g i) (h : rlE c g n d = 0) : GInv c (rlG c g n d) (i + 1) := by
  obtain ⟨h1, h2, h3⟩ := rl_parts h
  rw [h3]; exact g_put I h2
theorem rl_in {c g d : D} {n : Int} {i : Nat} (I : GInv c g i) (hi : i ≤ 100) (h0 : 0 ≤ n) (h1 : n < Cf.nR c) : rlE c g n d = 0 ∨ rlE c g n d = 7 ∨ rlE c g n d = 11 ∨ rlE c g n d = 14 ∨ rlE c g n d = 15 ∨ rlE c g n d = 6 := by
  by_cases hf : fdE c g n d = 0
  · have e : rlE c g n d = paE c g (fdV c g n d) := if_neg fun k => k hf
    rw [e]
    rcases pa_in I hi (e := fdV c g n d) with h | h | h | h | h <;> simp [h]
  · rw [(rl_1 hf).1]
    rcases fd_in I.gk h0 h1 (d := d) with h | h | h <;> simp [h]
end Go.Proofs.Ytpfpgjkbnjnjnaa
