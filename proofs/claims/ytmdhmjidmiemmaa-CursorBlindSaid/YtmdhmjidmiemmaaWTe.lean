/- Accounts of stores: List, Get. -/
import Derived.Test.YtmdhmjidmiemmaaWTd
namespace Go.Proofs.Ytmdhmjidmiemmaa
open Go Go.Vm Rg
set_option linter.unusedSimpArgs false
set_option linter.unusedVariables false
set_option maxRecDepth 10000
theorem nu_ok {s : D} (h : numE s = 0) : (mrg s).any (lateG s) = false ∧ adjL (mrg s) = false ∧ (mrg s).any (oldG s) = false := by
  unfold numE at h
  split at h
  · cases h
  split at h
  · cases h
  split at h
  · cases h
  rename_i h1 h2 h3
  exact ⟨by simpa using h1, by simpa using h2, by simpa using h3⟩
theorem st_adj {s : D} (h : stE s = 0) : adjL (mrg s) = false := (nu_ok (st_ok h).2.2.2).2.1
def listT (s : D) : List D := if stE s ≠ 0 then [] else mrg s
def sListT : Sum := ⟨[storeS], fun _ => none, fun
  | [s] => .tup [.dat (.slice storedS) (.L (listT s)), .dat i64 (.I (stE s))]
  | _ => .und⟩
theorem listT_bad {s : D} (h : stE s ≠ 0) : [] = listT s := by rw [listT, if_pos h]
theorem listT_ok {s : D} (h : stE s = 0) : mrg s = listT s := by rw [listT, if_neg (by simp [h])]
def cLsR : Ctx := ⟨tabT, refsT, [(48, sChk), (72, sMerged)], [], keep, mpsT⟩
theorem listRT_fun : FunOK cLsR 60 Try.f77 sListT := fun s hs h => by
  refine ⟨fun h1 => ⟨Bears.same (eqSame ?_), Bears.int rfl, trivial⟩, fun h1 => ⟨(st_ok (eqB h1)).1, Bears.same (eqSame ?_), Bears.int (eqB h1).symm, trivial⟩⟩
  · exact congrArg D.L (listT_bad (neB h1))
  · exact congrArg D.L (listT_ok (eqB h1))
theorem listRT_ok : SumOK Try.prog 77 sListT := sumOK_of_vc (c := cLsR) (ctxT (.cons checkRT_ok (.cons merged_ok .nil))) mixed Try.func77 rfl (by decide) @listRT_fun
def getTE (s d : D) : Int := if stE s ≠ 0 then stE s else if cE s (d.nth 0).int ≠ 0 then 7 else getE (rgAt s (cI s (d.nth 0).int)) (d.nth 1).int
def getT (s d : D) : D := if getTE s d ≠ 0 then D0 storedS else getD' (rgAt s (cI s (d.nth 0).int)) (d.nth 1).int
def sGetT : Sum := ⟨[storeS, idS], fun _ => none, fun
  | [s, d] => .tup [.dat storedS (getT s d), .dat i64 (.I (getTE s d))]
  | _ => .und⟩
theorem getT_bad {s d : D} (h : stE s ≠ 0) : D0 storedS = getT s d ∧ stE s = getTE s d := by
  have e : stE s = getTE s d := by rw [getTE, if_pos h]
  exact ⟨by rw [getT, if_pos (by rw [← e]; exact h)], e⟩
theorem getT_7 {s d : D} (h : stE s = 0) (h2 : cE s (d.nth 0).int ≠ 0) : D0 storedS = getT s d ∧ (7 : Int) = getTE s d := by
  have e : (7 : Int) = getTE s d := by rw [getTE, if_neg (by simp [h]), if_pos h2]
  exact ⟨by rw [getT, if_pos (by rw [← e]; decide)], e⟩
theorem getT_r {s d : D} (h : stE s = 0) (h2 : cE s (d.nth 0).int = 0) : getD' (rgAt s (cI s (d.nth 0).int)) (d.nth 1).int = getT s d ∧ getE (rgAt s (cI s (d.nth 0).int)) (d.nth 1).int = getTE s d := by
  have e : getE (rgAt s (cI s (d.nth 0).int)) (d.nth 1).int = getTE s d := by rw [getTE, if_neg (by simp [h]), if_neg (by simp [h2])]
  refine ⟨?_, e⟩
  rw [getT, ← e]
  by_cases h3 : getE (rgAt s (cI s (d.nth 0).int)) (d.nth 1).int ≠ 0
  · rw [if_pos h3, getD', if_pos h3]
  · rw [if_neg h3]
theorem cN_nat {s : D} {l : Int} (h : cE s l = 0) : (cN s l).toNat = cI s l := by
  have := cN_lt h; omega
/-! ### The map of what was seen -/
def mpY (Y : List D) : List (D × D) := Y.foldl (fun es x => mPutS [u64, u64] (x.nth 0) x es) []
theorem mpY_snoc (Y : List D) (x : D) : mpY (Y ++ [x]) = mPutS [u64, u64] (x.nth 0) x (mpY Y) := by simp [mpY, List.foldl_append]
theorem eqId (a b : D) : eqD idS a b = true ↔ (a.nth 0).int = (b.nth 0).int ∧ (a.nth 1).int = (b.nth 1).int := by
  simp [eqD, eqDs]
theorem eqId_false (a b : D) : eqD idS a b = false ↔ ¬ ((a.nth 0).int = (b.nth 0).int ∧ (a.nth 1).int = (b.nth 1).int) := by
  rw [← eqId, Bool.not_eq_true]
theorem has_put (k k' v : D) : ∀ es : List (D × D), mHasS [u64, u64] k (mPutS [u64, u64] k' v es) = (eqD idS k k' || mHasS [u64, u64] k es)
  | [] => by simp only [mPutS, mHasS]
  | (k1, v1) :: es => by
    cases h : eqD idS k' k1 with
    | true =>
      have h' := (eqId _ _).1 h
      have e : eqD idS k k' = eqD idS k k1 := by
        rw [Bool.eq_iff_iff, eqId, eqId, h'.1, h'.2]
      have e2 : mPutS [u64, u64] k' v ((k1, v1) :: es) = (k', v) :: es := by simp only [mPutS, h]
      rw [e2]
      show (eqD idS k k' || mHasS [u64, u64] k es) = (eqD idS k k' || (eqD idS k k1 || mHasS [u64, u64] k es))
      rw [e]; cases eqD idS k k1 <;> rfl
    | false =>
      have e2 : mPutS [u64, u64] k' v ((k1, v1) :: es) = (k1, v1) :: mPutS [u64, u64] k' v es := by simp only [mPutS, h]
      rw [e2]
      show (eqD idS k k1 || mHasS [u64, u64] k (mPutS [u64, u64] k' v es)) = (eqD idS k k' || (eqD idS k k1 || mHasS [u64, u64] k es))
      rw [has_put k k' v es]
      cases eqD idS k k1 <;> cases eqD idS k k' <;> rfl
theorem get_put (z k k' v : D) : ∀ es : List (D × D), mGetS [u64, u64] z k (mPutS [u64, u64] k' v es) = if eqD idS k k' = true then v else mGetS [u64, u64] z k es
  | [] => by
    show (match eqD idS k k' with | true => v | false => z) = _
    cases eqD idS k k' <;> rfl
  | (k1, v1) :: es => by
    cases h : eqD idS k' k1 with
    | true =>
      have h' := (eqId _ _).1 h
      have e : eqD idS k k' = eqD idS k k1 := by
        rw [Bool.eq_iff_iff, eqId, eqId, h'.1, h'.2]
      have e2 : mPutS [u64, u64] k' v ((k1, v1) :: es) = (k', v) :: es := by simp only [mPutS, h]
      rw [e2]
      show (match eqD idS k k' with | true => v | false => mGetS [u64, u64] z k es) = if eqD idS k k' = true then v else (match eqD idS k k1 with | true => v1 | false => mGetS [u64, u64] z k es)
      rw [e]; cases eqD idS k k1 <;> rfl
    | false =>
      have e2 : mPutS [u64, u64] k' v ((k1, v1) :: es) = (k1, v1) :: mPutS [u64, u64] k' v es := by simp only [mPutS, h]
      rw [e2]
      show (match eqD idS k k1 with | true => v1 | false => mGetS [u64, u64] z k (mPutS [u64, u64] k' v es)) = if eqD idS k k' = true then v else (match eqD idS k k1 with | true => v1 | false => mGetS [u64, u64] z k es)
      rw [get_put z k k' v es]
      cases h1 : eqD idS k k1 with
      | false => rfl
      | true =>
        have h2 : eqD idS k k' = false := by
          rw [eqId_false]; rw [eqId_false] at h; rw [eqId] at h1
          intro h3; exact h ⟨h3.1 ▸ h1.1, h3.2 ▸ h1.2⟩
        rw [h2]; rfl
theorem List.reverseRecOn' {P : List D → Prop} (Y : List D) (nil : P []) (snoc : ∀ Y x, P Y → P (Y ++ [x])) : P Y := by
  have : ∀ n (Y : List D), Y.length = n → P Y := by
    intro n
    induction n with
    | zero => intro Y h; rw [List.eq_nil_of_length_eq_zero h]; exact nil
    | succ n ih =>
      intro Y h
      have hne : Y ≠ [] := fun e => by subst e; simp at h
      rw [show Y = Y.dropLast ++ [Y.getLast hne] from (List.dropLast_concat_getLast hne).symm]
      exact snoc _ _ (ih _ (by rw [List.length_dropLast]; omega))
  exact this _ Y rfl
theorem mp_no {k : D} : ∀ {Y : List D}, mHasS [u64, u64] k (mpY Y) = false → ∀ y, y ∈ Y → eqD idS k (y.nth 0) = false := by
  intro Y
  induction Y using List.reverseRecOn' with
  | nil => intro _ y hy; cases hy
  | snoc Y x ih =>
    intro h y hy
    rw [mpY_snoc, has_put, Bool.or_eq_false_iff] at h
    rcases List.mem_append.1 hy with hy | hy
    · exact ih h.2 y hy
    · rw [List.mem_singleton] at hy; subst hy; exact h.1
theorem mp_yes {z k : D} : ∀ {Y : List D}, mHasS [u64, u64] k (mpY Y) = true → ∃ y, y ∈ Y ∧ eqD idS k (y.nth 0) = true ∧ mGetS [u64, u64] z k (mpY Y) = y := by
  intro Y
  induction Y using List.reverseRecOn' with
  | nil => intro h; cases h
  | snoc Y x ih =>
    intro h
    rw [mpY_snoc, get_put]
    by_cases hk : eqD idS k (x.nth 0) = true
    · exact ⟨x, by simp, hk, by rw [if_pos hk]⟩
    · rw [mpY_snoc, has_put, Bool.eq_false_iff.2 hk, Bool.false_or] at h
      obtain ⟨y, h1, h2, h3⟩ := ih h
      exact ⟨y, by simp [h1], h2, by rw [if_neg hk]; exact h3⟩
def refsG : List (Nat × Value) := refsT
theorem refsGOK : refsB Try.prog refsG = true := by kernel_rfl
noncomputable def cGt : Ctx := ⟨tabT, refsG, [(42, sChk), (83, sListP)], [(84, Try.f84), (100, Try.f100)], keep, mpsT⟩
theorem ev_id {s : D} (h : okRgs s) {i j : Nat} (hi : i < nG s) (hj : j < cap (rgAt s i)) : (((evAt (rgAt s i) j).nth 0).nth 0).int = labG s i ∧ (((evAt (rgAt s i) j).nth 0).nth 1).int = ((rgAt s i).nth 2).int + j := by
  have := evF_zero (bef_evs (h.2 i hi) hj)
  exact ⟨this.1, this.2.1⟩
theorem lab_inj {s : D} (h : dupG s = false) {i k : Nat} (hi : i < nG s) (hk : k < nG s) (e : labG s k = labG s i) : k = i := by
  have key : ∀ i k, i < nG s → k < i → labG s k ≠ labG s i := by
    intro i k hi hk e
    rw [dupG, anyR_at hi (anyR_at hk (by simpa using e))] at h; cases h
  rcases Nat.lt_trichotomy k i with h1 | h1 | h1
  · exact absurd e (key i k hi h1)
  · exact h1
  · exact absurd e.symm (key k i hk h1)
theorem cI_lab {s : D} (h : dupG s = false) {i : Nat} (hi : i < nG s) : cI s (labG s i) = i := by
  refine cI_at hi (fun k hk => isC_no ?_) (by simp)
  have : labG s k ≠ labG s i := fun e => by have := lab_inj h hi (by omega) e; omega
  simpa using this
theorem cI_is {s : D} {l : Int} (h : cI s l < nG s) : labG s (cI s l) = l := by
  have h1 := (Cf.fi_spec (f := isC s l) (m := nG s) (i := 0)).2 (by rw [Nat.zero_add]; exact h)
  apply Classical.byContradiction
  intro hne
  refine h1 (isC_no ?_)
  have hne : labG s (Cf.fi (isC s l) (nG s) 0) ≠ l := hne
  simpa using hne
theorem get_yes {s d : D} (h : stE s = 0) {Y : List D} (hp : Y.Perm (flat (lsts s))) (hh : mHasS [u64, u64] d (mpY Y) = true) : mGetS [u64, u64] (D0 storedS) d (mpY Y) = getT s d ∧ (0 : Int) = getTE s d := by
  obtain ⟨hok, hd, _, _⟩ := st_ok h
  obtain ⟨y, hy, he, hg⟩ := mp_yes (z := D0 storedS) hh
  obtain ⟨i, hi, j, hj, rfl⟩ := mem_flat.1 (hp.mem_iff.1 hy)
  have h1 := (eqId _ _).1 he
  have h2 := ev_id hok hi hj
  have hl : (d.nth 0).int = labG s i := by rw [h1.1]; exact h2.1
  have hn : (d.nth 1).int = ((rgAt s i).nth 2).int + j := by rw [h1.2]; exact h2.2
  have hc : cI s (d.nth 0).int = i := by rw [hl]; exact cI_lab hd hi
  have hE : cE s (d.nth 0).int = 0 := by rw [cE, hc, if_pos hi]
  have hr := getT_r (d := d) h hE
  rw [hc] at hr
  have hb := chk_bad (hok.2 i hi)
  have hcap := cap_le hb
  have h0 : getE (rgAt s i) (d.nth 1).int = 0 := by
    rw [getE, if_neg (by simp [hok.2 i hi]), if_neg]
    simp only [Bool.or_eq_true, ltB_true, leB_true, hn]; omega
  rw [← hr.2, ← hr.1, hg, h0]
  refine ⟨?_, rfl⟩
  rw [getD', if_neg (by simp [h0]), hn]; rfl
theorem get_no {s d : D} (h : stE s = 0) {Y : List D} (hp : Y.Perm (flat (lsts s))) (hh : mHasS [u64, u64] d (mpY Y) = false) : D0 storedS = getT s d ∧ (7 : Int) = getTE s d := by
  by_cases hE : cE s (d.nth 0).int ≠ 0
  · exact getT_7 h hE
  replace hE : cE s (d.nth 0).int = 0 := by simpa using hE
  obtain ⟨hok, hd, _, _⟩ := st_ok h
  obtain ⟨_, _, _, hi⟩ := cN_lt hE
  have hr := getT_r (d := d) h hE
  have hlab := cI_is hi
  obtain ⟨i, hie⟩ : ∃ i, i = cI s (d.nth 0).int := ⟨_, rfl⟩
  rw [← hie] at hi hr hlab
  have h7 : getE (rgAt s i) (d.nth 1).int = 7 := by
    rw [getE, if_neg (by simp [hok.2 i hi])]
    split
    · rfl
    · rename_i hin
      exfalso
      have hb := chk_bad (hok.2 i hi)
      have hcap := cap_le hb
      simp only [Bool.or_eq_true, ltB_true, leB_true] at hin
      have hj : ((d.nth 1).int - ((rgAt s i).nth 2).int).toNat < cap (rgAt s i) := by omega
      have h2 := ev_id hok hi hj
      have h3 := mp_no hh _ (hp.mem_iff.2 (mem_flat.2 ⟨i, hi, _, hj, rfl⟩))
      rw [eqId_false] at h3
      refine h3 ⟨by rw [h2.1]; exact hlab.symm, by rw [h2.2]; omega⟩
  rw [h7] at hr
  refine ⟨?_, hr.2⟩
  rw [getT, if_pos (by rw [← hr.2]; decide)]
end Go.Proofs.Ytmdhmjidmiemmaa
