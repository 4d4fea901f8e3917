/- Accounts of stores: List, Get. -/
import Derived.Test.YtpfpgjkbnjnjnaaWTd
namespace Go.Proofs.Ytpfpgjkbnjnjnaa
open Go Go.Vm Rg
set_option linter.unusedSimpArgs false
set_option linter.unusedVariables false
set_option maxRecDepth 10000
theorem nu_ok {s : D} (h : numE s = 0) : (mrg s).any (lateG s) = false ∧ adjL (mrg s) = false ∧ (mrg s).any (oldG s) = false := by
  unfold numE at h
  split at h
  · cases h
  split at h
  · cases h
  split at h
  · cases h
  rename_i h1 h2 h3
  exact ⟨by simpa using h1, by simpa using h2, by simpa using h3⟩
theorem st_adj {s : D} (h : stE s = 0) : adjL (mrg s) = false := (nu_ok (st_ok h).2.2.2).2.1
def listT (s : D) : List D := if stE s ≠ 0 then [] else mrg s
def sListT : Sum := ⟨[storeS], fun _ => none, fun
  | [s] => .tup [.dat (.slice storedS) (.L (listT s)), .dat i64 (.I (stE s))]
  | _ => .und⟩
theorem listT_bad {s : D} (h : stE s ≠ 0) : [] = listT s := by rw [listT, if_pos h]
theorem listT_ok {s : D} (h : stE s = 0) : mrg s = listT s := by rw [listT, if_neg (by simp [h])]
def cLsR : Ctx := ⟨tabT, refsT, [], [], keep, mpsT⟩
noncomputable def cLs : Ctx := ⟨tabT, refsT, [(42, sChk), (75, sListP)], [(51, Try.f51), (74, Try.f74), (58, Try.f58), (80, Try.f80)], keep, mpsT⟩
set_option maxHeartbeats 2000000 in
theorem list_fun : FunOK cLs 200 Try.f37 sListT := fun s hs h => by
  refine ⟨fun h1 => ⟨Bears.same (eqSame (congrArg D.L (listT_bad (neB h1)))), Bears.int rfl, trivial⟩, fun h1 => ?_⟩
  replace h1 : stE s = 0 := eqB h1
  have hE := h1
  replace h : okRgs s := (st_ok h1).1
  clear h1
  have h8 := h.1
  have hw := okRgs_len h
  refine ⟨hw, ?_⟩
  --WALK
  refine ⟨{ i : Nat // i ≤ nG s }, 8, fun i => ([(14, .dat i64 (.I i.1)), (13, .dat i64 (.I (nG s))), (12, .dat (.slice ringS) (s.nth 0)), (3, .own 7 (.slice storedS)), (0, .yld 6), (1, .ptr 2 (.slice ringS) [] (.slice ringS))],
    [(7, .grow (.slice storedS) (lsD s i.1)), (6, .loop .ready), (2, .box (.slice ringS) (.dat (.slice ringS) (s.nth 0))), (4, .box (.slice storedS) (.cst (Value.slice none 0 0))), (0, .box storeS (.dat storeS s))]), fun i => nG s - i.1,
    ⟨0, by omega⟩, ⟨[], rfl, ⟨rfl, rfl, rfl, rfl, rfl, rfl, trivial⟩, ⟨gro (lsD_0 s), rfl, rfl, rfl, rfl, trivial⟩⟩, ?_⟩
  intro x
  obtain ⟨i, hi⟩ := x
  refine ⟨fun h1 => ?_, fun h1 => ?_⟩
  · have hk2 : i < nG s := ltN h1
    clear h1
    have hlD : (lsD s i).length = nG s := lsD_len (by omega)
    have hc := h.2 i hk2
    have e : (if chk (rgAt s i) ≠ 0 then [] else fromL (rgAt s i) 0 (fromN (rgAt s i) 0)) = evs (rgAt s i) := by
      rw [if_neg (by simp [hc])]; exact fromL_zero (chk_bad hc)
    refine ⟨ix hk2, by show 0 ≤ (i : Int) ∧ (i : Int) < ((lsD s i).length : Int); omega, ⟨i + 1, hk2⟩, ⟨[], rfl, ⟨slot (i64_1 (n := i) (by omega)), rfl, rfl, rfl, rfl, rfl, trivial⟩, ⟨gro ?_, rfl, rfl, rfl, rfl, trivial⟩⟩, stepLt hk2⟩
    show (lsD s i).set i (D.puts (.slice storedS) ((lsD s i).getD i .Z) [] (.L (if chk (rgAt s i) ≠ 0 then [] else fromL (rgAt s i) 0 (fromN (rgAt s i) 0)))) = lsD s (i + 1)
    rw [D.puts_nil, e]; exact lsD_set hk2
  · have he : i = nG s := geN hi h1
    clear h1
    refine ⟨{ x : List D × List (List D) // Mrg keyO (lsts s) x.1 x.2 ∧ True }, 9, fun x => ([(3, .own 7 (.slice storedS)), (0, .yld 6), (1, .ptr 2 (.slice ringS) [] (.slice ringS))],
      [(7, .grow (.slice storedS) (x.1.2.map D.L)), (6, .loop .ready), (2, .box (.slice ringS) (.dat (.slice ringS) (s.nth 0))), (4, .box (.slice storedS) (.own 8 storedS)), (8, .grow storedS x.1.1), (0, .box storeS (.dat storeS s))]), fun x => (flat x.1.2).length,
      ⟨([], lsts s), .start (lsts_sorted h), trivial⟩, ⟨[(8, 1000000)], rfl, ⟨rfl, rfl, rfl, trivial⟩, ⟨gro ((congrArg (lsD s) he).trans (lsD_all s)), rfl, rfl, rfl, rfl, rfl, trivial⟩⟩, ?_⟩
    intro x
    obtain ⟨⟨Y, ls⟩, hM, hinv⟩ := x
    simp only at hM hinv
    have hll : ls.length = nG s := by rw [hM.len, lsts, List.length_map]; rfl
    refine ⟨{ x : Nat × Int // x.1 ≤ ls.length ∧ Fst keyO ls x.1 x.2 }, 9, fun x => ([(30, .dat i64 (.I x.1.1)), (29, .dat i64 (.I (ls.map D.L).length)), (28, .own 7 (.slice storedS)), (6, .dat i64 (.I x.1.2)), (3, .own 7 (.slice storedS)), (0, .yld 6), (1, .ptr 2 (.slice ringS) [] (.slice ringS))],
      [(7, .grow (.slice storedS) (ls.map D.L)), (6, .loop .ready), (2, .box (.slice ringS) (.dat (.slice ringS) (s.nth 0))), (4, .box (.slice storedS) (.own 8 storedS)), (8, .grow storedS Y), (0, .box storeS (.dat storeS s))]), fun x => ls.length - x.1.1,
      ⟨(0, -1), by simp, .start ls⟩, ⟨[], rfl, ⟨rfl, rfl, rfl, rfl, rfl, rfl, rfl, trivial⟩, ⟨rfl, rfl, rfl, rfl, rfl, rfl, trivial⟩⟩, ?_⟩
    intro x
    obtain ⟨⟨i, f⟩, hi, hF⟩ := x
    simp only at hi hF
    have hml : (ls.map D.L).length = ls.length := List.length_map ..
    have f0 : ltB f 0 = false → 0 ≤ f := fun h => by simp only [ltB_false] at h; exact h
    have fb : ltB f 0 = false → 0 ≤ f ∧ f < ((ls.map D.L).length : Int) := fun h => by
      have h1 := (hF.some (f0 h)).1
      have h2 := f0 h
      omega
    have fl : ltB f 0 = false → ((ls.map D.L).getD f.toNat .Z).list = ls.getD f.toNat [] := fun h => mapL_get (by have := fb h; omega)
    have fn : ltB f 0 = false → 0 < (((ls.map D.L).getD f.toNat .Z).list.length : Int) := fun h => by
      rw [fl h]
      have := (hF.some (f0 h)).2.1
      have := List.length_pos_iff.2 this
      omega
    refine ⟨fun h1 => ?_, fun h1 => ?_⟩
    · have hk : i < ls.length := by have : i < (ls.map D.L).length := ltN h1; omega
      clear h1
      have gl : ((ls.map D.L).getD i .Z).list = ls.getD i [] := mapL_get hk
      refine ⟨(by show 0 ≤ (i : Int) ∧ (i : Int) < ((ls.map D.L).length : Int); omega), fun h1 => ⟨Int.le_refl 0, ltT (keyOne h1.2)⟩, fun h1 => ⟨(fb h1.1).1, (fb h1.1).2⟩, fun h1 => ⟨Int.le_refl 0, fn h1.1⟩, by kernel_rfl, fun h1 => ?_, fun h1 => ?_⟩
      all_goals replace h1 : (ltB 0 (((ls.map D.L).getD i .Z).list.length : Int) && (ltB f 0 || ltB (keyO (((ls.map D.L).getD i .Z).list.getD 0 .Z)) (keyO (((ls.map D.L).getD f.toNat .Z).list.getD 0 .Z)))) = _ := h1
      all_goals rw [gl] at h1
      · rw [Bool.and_eq_true, Bool.or_eq_true] at h1
        have hne : ls.getD i [] ≠ [] := fun e => by rw [e] at h1; simp at h1
        refine ⟨⟨(i + 1, (i : Int)), hk, hF.take hne ?_⟩, ⟨[], rfl, ⟨slot (i64_1 (n := i) (by omega)), rfl, rfl, rfl, rfl, rfl, rfl, trivial⟩, ⟨rfl, rfl, rfl, rfl, rfl, rfl, trivial⟩⟩, stepLt hk⟩
        by_cases hf : f < 0
        · exact .inl hf
        · rcases h1.2 with h2 | h2
          · simp only [ltB_true] at h2; exact .inl h2
          · rw [fl (by simp only [ltB_false]; omega)] at h2
            simp only [ltB_true] at h2; exact .inr h2
      · refine ⟨⟨(i + 1, f), hk, hF.skip ?_⟩, ⟨[], rfl, ⟨slot (i64_1 (n := i) (by omega)), rfl, rfl, rfl, rfl, rfl, rfl, trivial⟩, ⟨rfl, rfl, rfl, rfl, rfl, rfl, trivial⟩⟩, stepLt hk⟩
        by_cases hne : ls.getD i [] = []
        · exact .inl hne
        · right
          have hpos : ltB 0 ((ls.getD i []).length : Int) = true := by
            have := List.length_pos_iff.2 hne
            simp only [ltB_true]; omega
          rw [hpos, Bool.true_and, Bool.or_eq_false_iff] at h1
          refine ⟨f0 h1.1, ?_⟩
          have h2 := h1.2
          rw [fl h1.1] at h2
          simpa only [ltB_false] using h2
    · have he : i = ls.length := geN hi (by rw [← hml]; exact h1)
      clear h1
      subst he
      refine ⟨fun h1 => ⟨(fb h1).1, (fb h1).2⟩, fun h1 => ⟨Int.le_refl 0, fn h1⟩, fun h1 => ?_, fun h1 => ?_⟩
      · replace h1 : ltB f 0 = false := h1
        obtain ⟨x, hx⟩ : ∃ x, x = (ls.getD f.toNat []).getD 0 .Z := ⟨_, rfl⟩
        have hst := hM.step hF (f0 h1)
        rw [← hx] at hst
        have hxm : ((ls.map D.L).getD f.toNat .Z).list.getD 0 .Z = x := by rw [fl h1, hx]
        have hset : (ls.map D.L).set f.toNat (D.puts (.slice storedS) ((ls.map D.L).getD f.toNat .Z) [] (.L ((((ls.map D.L).getD f.toNat .Z).list.drop (1 : Int).toNat).take ((((ls.map D.L).getD f.toNat .Z).list.length : Int) - 1).toNat))) = (ls.set f.toNat ((ls.getD f.toNat []).drop 1)).map D.L := by
          rw [D.puts_nil, fl h1]; exact setL_drop _ _
        have hslb : 0 ≤ (1 : Int) ∧ (1 : Int) ≤ (((ls.map D.L).getD f.toNat .Z).list.length : Int) ∧ (((ls.map D.L).getD f.toNat .Z).list.length : Int) ≤ (((ls.map D.L).getD f.toNat .Z).list.length : Int) := by have := fn h1; omega
        have hmu : (flat (ls.set f.toNat ((ls.getD f.toNat []).drop 1))).length < (flat ls).length := by
          have h2 := hM.count
          have h3 := hst.count
          rw [List.length_append, List.length_singleton] at h3
          omega
        have hb := fb h1
        refine ⟨?_, fun h2 => absurd (show (ltB f 0 || false) = true from h2) (by rw [h1]; simp), fun h2 => ⟨hb, hslb, hb, ⟨(Y ++ [x], ls.set f.toNat ((ls.getD f.toNat []).drop 1)), hst, trivial⟩, ⟨[(8, 11)], rfl, ⟨rfl, rfl, rfl, trivial⟩, ⟨gro hset, rfl, rfl, rfl, gro ?_, rfl, trivial⟩⟩, hmu⟩⟩
        · show Y.length + 1 ≤ 1073741824
          have h3 := hst.count
          have h4 := flat_len h
          rw [List.length_append, List.length_singleton] at h3
          omega
        · show Y ++ [((ls.map D.L).getD f.toNat .Z).list.getD 0 .Z] = Y ++ [x]
          rw [hxm]
      · replace h1 : ltB f 0 = true := h1
        have hf : f < 0 := by simpa only [ltB_true] using h1
        obtain ⟨hYp, hYs⟩ := hM.done hF hf
        refine ⟨fun _ => ⟨Bears.same (eqSame (congrArg D.L ?_)), Bears.int hE.symm, trivial⟩, fun h2 => absurd (show (ltB f 0 || true) = false from h2) (by rw [h1]; simp)⟩
        exact (srt_eq (flat_nodup (st_adj hE)) hYp hYs).trans (listT_ok hE)
theorem list_ok : SumOK Try.prog 37 sListT := sumOK_of_vc (c := cLs) (CtxOK.of tabTOK refsTOK (.cons checkT_ok (.cons listP_ok .nil)) (.cons rfl rfl (by decide) (.cons rfl rfl (by decide) (.cons rfl rfl (by decide) (.cons rfl rfl (by decide) .nil)))) mpsTOK) mixed Try.func37 rfl (by decide) @list_fun
def getTE (s d : D) : Int := if stE s ≠ 0 then stE s else if cE s (d.nth 0).int ≠ 0 then 7 else getE (rgAt s (cI s (d.nth 0).int)) (d.nth 1).int
def getT (s d : D) : D := if getTE s d ≠ 0 then D0 storedS else getD' (rgAt s (cI s (d.nth 0).int)) (d.nth 1).int
def sGetT : Sum := ⟨[storeS, idS], fun _ => none, fun
  | [s, d] => .tup [.dat storedS (getT s d), .dat i64 (.I (getTE s d))]
  | _ => .und⟩
def cGtR : Ctx := ⟨tabT, refsT, [], [], keep, mpsT⟩
theorem getT_bad {s d : D} (h : stE s ≠ 0) : D0 storedS = getT s d ∧ stE s = getTE s d := by
  have e : stE s = getTE s d := by rw [getTE, if_pos h]
  exact ⟨by rw [getT, if_pos (by rw [← e]; exact h)], e⟩
theorem getT_7 {s d : D} (h : stE s = 0) (h2 : cE s (d.nth 0).int ≠ 0) : D0 storedS = getT s d ∧ (7 : Int) = getTE s d := by
  have e : (7 : Int) = getTE s d := by rw [getTE, if_neg (by simp [h]), if_pos h2]
  exact ⟨by rw [getT, if_pos (by rw [← e]; decide)], e⟩
theorem getT_r {s d : D} (h : stE s = 0) (h2 : cE s (d.nth 0).int = 0) : getD' (rgAt s (cI s (d.nth 0).int)) (d.nth 1).int = getT s d ∧ getE (rgAt s (cI s (d.nth 0).int)) (d.nth 1).int = getTE s d := by
  have e : getE (rgAt s (cI s (d.nth 0).int)) (d.nth 1).int = getTE s d := by rw [getTE, if_neg (by simp [h]), if_neg (by simp [h2])]
  refine ⟨?_, e⟩
  rw [getT, ← e]
  by_cases h3 : getE (rgAt s (cI s (d.nth 0).int)) (d.nth 1).int ≠ 0
  · rw [if_pos h3, getD', if_pos h3]
  · rw [if_neg h3]
theorem cN_nat {s : D} {l : Int} (h : cE s l = 0) : (cN s l).toNat = cI s l := by
  have := cN_lt h; omega
/-! ### The map of what was seen -/
def mpY (Y : List D) : List (D × D) := Y.foldl (fun es x => mPutS [u64, u64] (x.nth 0) x es) []
theorem mpY_snoc (Y : List D) (x : D) : mpY (Y ++ [x]) = mPutS [u64, u64] (x.nth 0) x (mpY Y) := by simp [mpY, List.foldl_append]
theorem eqId (a b : D) : eqD idS a b = true ↔ (a.nth 0).int = (b.nth 0).int ∧ (a.nth 1).int = (b.nth 1).int := by
  simp [eqD, eqDs]
theorem eqId_false (a b : D) : eqD idS a b = false ↔ ¬ ((a.nth 0).int = (b.nth 0).int ∧ (a.nth 1).int = (b.nth 1).int) := by
  rw [← eqId, Bool.not_eq_true]
theorem has_put (k k' v : D) : ∀ es : List (D × D), mHasS [u64, u64] k (mPutS [u64, u64] k' v es) = (eqD idS k k' || mHasS [u64, u64] k es)
  | [] => by simp only [mPutS, mHasS]
  | (k1, v1) :: es => by
    cases h : eqD idS k' k1 with
    | true =>
      have h' := (eqId _ _).1 h
      have e : eqD idS k k' = eqD idS k k1 := by
        rw [Bool.eq_iff_iff, eqId, eqId, h'.1, h'.2]
      have e2 : mPutS [u64, u64] k' v ((k1, v1) :: es) = (k', v) :: es := by simp only [mPutS, h]
      rw [e2]
      show (eqD idS k k' || mHasS [u64, u64] k es) = (eqD idS k k' || (eqD idS k k1 || mHasS [u64, u64] k es))
      rw [e]; cases eqD idS k k1 <;> rfl
    | false =>
      have e2 : mPutS [u64, u64] k' v ((k1, v1) :: es) = (k1, v1) :: mPutS [u64, u64] k' v es := by simp only [mPutS, h]
      rw [e2]
      show (eqD idS k k1 || mHasS [u64, u64] k (mPutS [u64, u64] k' v es)) = (eqD idS k k' || (eqD idS k k1 || mHasS [u64, u64] k es))
      rw [has_put k k' v es]
      cases eqD idS k k1 <;> cases eqD idS k k' <;> rfl
theorem get_put (z k k' v : D) : ∀ es : List (D × D), mGetS [u64, u64] z k (mPutS [u64, u64] k' v es) = if eqD idS k k' = true then v else mGetS [u64, u64] z k es
  | [] => by
    show (match eqD idS k k' with | true => v | false => z) = _
    cases eqD idS k k' <;> rfl
  | (k1, v1) :: es => by
    cases h : eqD idS k' k1 with
    | true =>
      have h' := (eqId _ _).1 h
      have e : eqD idS k k' = eqD idS k k1 := by
        rw [Bool.eq_iff_iff, eqId, eqId, h'.1, h'.2]
      have e2 : mPutS [u64, u64] k' v ((k1, v1) :: es) = (k', v) :: es := by simp only [mPutS, h]
      rw [e2]
      show (match eqD idS k k' with | true => v | false => mGetS [u64, u64] z k es) = if eqD idS k k' = true then v else (match eqD idS k k1 with | true => v1 | false => mGetS [u64, u64] z k es)
      rw [e]; cases eqD idS k k1 <;> rfl
    | false =>
      have e2 : mPutS [u64, u64] k' v ((k1, v1) :: es) = (k1, v1) :: mPutS [u64, u64] k' v es := by simp only [mPutS, h]
      rw [e2]
      show (match eqD idS k k1 with | true => v1 | false => mGetS [u64, u64] z k (mPutS [u64, u64] k' v es)) = if eqD idS k k' = true then v else (match eqD idS k k1 with | true => v1 | false => mGetS [u64, u64] z k es)
      rw [get_put z k k' v es]
      cases h1 : eqD idS k k1 with
      | false => rfl
      | true =>
        have h2 : eqD idS k k' = false := by
          rw [eqId_false]; rw [eqId_false] at h; rw [eqId] at h1
          intro h3; exact h ⟨h3.1 ▸ h1.1, h3.2 ▸ h1.2⟩
        rw [h2]; rfl
theorem List.reverseRecOn' {P : List D → Prop} (Y : List D) (nil : P []) (snoc : ∀ Y x, P Y → P (Y ++ [x])) : P Y := by
  have : ∀ n (Y : List D), Y.length = n → P Y := by
    intro n
    induction n with
    | zero => intro Y h; rw [List.eq_nil_of_length_eq_zero h]; exact nil
    | succ n ih =>
      intro Y h
      have hne : Y ≠ [] := fun e => by subst e; simp at h
      rw [show Y = Y.dropLast ++ [Y.getLast hne] from (List.dropLast_concat_getLast hne).symm]
      exact snoc _ _ (ih _ (by rw [List.length_dropLast]; omega))
  exact this _ Y rfl
theorem mp_no {k : D} : ∀ {Y : List D}, mHasS [u64, u64] k (mpY Y) = false → ∀ y, y ∈ Y → eqD idS k (y.nth 0) = false := by
  intro Y
  induction Y using List.reverseRecOn' with
  | nil => intro _ y hy; cases hy
  | snoc Y x ih =>
    intro h y hy
    rw [mpY_snoc, has_put, Bool.or_eq_false_iff] at h
    rcases List.mem_append.1 hy with hy | hy
    · exact ih h.2 y hy
    · rw [List.mem_singleton] at hy; subst hy; exact h.1
theorem mp_yes {z k : D} : ∀ {Y : List D}, mHasS [u64, u64] k (mpY Y) = true → ∃ y, y ∈ Y ∧ eqD idS k (y.nth 0) = true ∧ mGetS [u64, u64] z k (mpY Y) = y := by
  intro Y
  induction Y using List.reverseRecOn' with
  | nil => intro h; cases h
  | snoc Y x ih =>
    intro h
    rw [mpY_snoc, get_put]
    by_cases hk : eqD idS k (x.nth 0) = true
    · exact ⟨x, by simp, hk, by rw [if_pos hk]⟩
    · rw [mpY_snoc, has_put, Bool.eq_false_iff.2 hk, Bool.false_or] at h
      obtain ⟨y, h1, h2, h3⟩ := ih h
      exact ⟨y, by simp [h1], h2, by rw [if_neg hk]; exact h3⟩
def refsG : List (Nat × Value) := (136, .map none) :: refsT
theorem refsGOK : refsB Try.prog refsG = true := by kernel_rfl
noncomputable def cGt : Ctx := ⟨tabT, refsG, [(42, sChk), (75, sListP)], [(51, Try.f51), (74, Try.f74)], keep, mpsT⟩
theorem ev_id {s : D} (h : okRgs s) {i j : Nat} (hi : i < nG s) (hj : j < cap (rgAt s i)) : (((evAt (rgAt s i) j).nth 0).nth 0).int = labG s i ∧ (((evAt (rgAt s i) j).nth 0).nth 1).int = ((rgAt s i).nth 2).int + j := by
  have := evF_zero (bef_evs (h.2 i hi) hj)
  exact ⟨this.1, this.2.1⟩
theorem lab_inj {s : D} (h : dupG s = false) {i k : Nat} (hi : i < nG s) (hk : k < nG s) (e : labG s k = labG s i) : k = i := by
  have key : ∀ i k, i < nG s → k < i → labG s k ≠ labG s i := by
    intro i k hi hk e
    rw [dupG, anyR_at hi (anyR_at hk (by simpa using e))] at h; cases h
  rcases Nat.lt_trichotomy k i with h1 | h1 | h1
  · exact absurd e (key i k hi h1)
  · exact h1
  · exact absurd e.symm (key k i hk h1)
theorem cI_lab {s : D} (h : dupG s = false) {i : Nat} (hi : i < nG s) : cI s (labG s i) = i := by
  refine cI_at hi (fun k hk => isC_no ?_) (by simp)
  have : labG s k ≠ labG s i := fun e => by have := lab_inj h hi (by omega) e; omega
  simpa using this
theorem cI_is {s : D} {l : Int} (h : cI s l < nG s) : labG s (cI s l) = l := by
  have h1 := (Cf.fi_spec (f := isC s l) (m := nG s) (i := 0)).2 (by rw [Nat.zero_add]; exact h)
  apply Classical.byContradiction
  intro hne
  refine h1 (isC_no ?_)
  have hne : labG s (Cf.fi (isC s l) (nG s) 0) ≠ l := hne
  simpa using hne
theorem get_yes {s d : D} (h : stE s = 0) {Y : List D} (hp : Y.Perm (flat (lsts s))) (hh : mHasS [u64, u64] d (mpY Y) = true) : mGetS [u64, u64] (D0 storedS) d (mpY Y) = getT s d ∧ (0 : Int) = getTE s d := by
  obtain ⟨hok, hd, _, _⟩ := st_ok h
  obtain ⟨y, hy, he, hg⟩ := mp_yes (z := D0 storedS) hh
  obtain ⟨i, hi, j, hj, rfl⟩ := mem_flat.1 (hp.mem_iff.1 hy)
  have h1 := (eqId _ _).1 he
  have h2 := ev_id hok hi hj
  have hl : (d.nth 0).int = labG s i := by rw [h1.1]; exact h2.1
  have hn : (d.nth 1).int = ((rgAt s i).nth 2).int + j := by rw [h1.2]; exact h2.2
  have hc : cI s (d.nth 0).int = i := by rw [hl]; exact cI_lab hd hi
  have hE : cE s (d.nth 0).int = 0 := by rw [cE, hc, if_pos hi]
  have hr := getT_r (d := d) h hE
  rw [hc] at hr
  have hb := chk_bad (hok.2 i hi)
  have hcap := cap_le hb
  have h0 : getE (rgAt s i) (d.nth 1).int = 0 := by
    rw [getE, if_neg (by simp [hok.2 i hi]), if_neg]
    simp only [Bool.or_eq_true, ltB_true, leB_true, hn]; omega
  rw [← hr.2, ← hr.1, hg, h0]
  refine ⟨?_, rfl⟩
  rw [getD', if_neg (by simp [h0]), hn]; rfl
theorem get_no {s d : D} (h : stE s = 0) {Y : List D} (hp : Y.Perm (flat (lsts s))) (hh : mHasS [u64, u64] d (mpY Y) = false) : D0 storedS = getT s d ∧ (7 : Int) = getTE s d := by
  by_cases hE : cE s (d.nth 0).int ≠ 0
  · exact getT_7 h hE
  replace hE : cE s (d.nth 0).int = 0 := by simpa using hE
  obtain ⟨hok, hd, _, _⟩ := st_ok h
  obtain ⟨_, _, _, hi⟩ := cN_lt hE
  have hr := getT_r (d := d) h hE
  have hlab := cI_is hi
  obtain ⟨i, hie⟩ : ∃ i, i = cI s (d.nth 0).int := ⟨_, rfl⟩
  rw [← hie] at hi hr hlab
  have h7 : getE (rgAt s i) (d.nth 1).int = 7 := by
    rw [getE, if_neg (by simp [hok.2 i hi])]
    split
    · rfl
    · rename_i hin
      exfalso
      have hb := chk_bad (hok.2 i hi)
      have hcap := cap_le hb
      simp only [Bool.or_eq_true, ltB_true, leB_true] at hin
      have hj : ((d.nth 1).int - ((rgAt s i).nth 2).int).toNat < cap (rgAt s i) := by omega
      have h2 := ev_id hok hi hj
      have h3 := mp_no hh _ (hp.mem_iff.2 (mem_flat.2 ⟨i, hi, _, hj, rfl⟩))
      rw [eqId_false] at h3
      refine h3 ⟨by rw [h2.1]; exact hlab.symm, by rw [h2.2]; omega⟩
  rw [h7] at hr
  refine ⟨?_, hr.2⟩
  rw [getT, if_pos (by rw [← hr.2]; decide)]
set_option maxHeartbeats 2000000 in
theorem get_fun : FunOK cGt 200 Try.f33 sGetT := fun s hs d hd h => by
  refine ⟨fun h1 => ⟨Bears.same (eqSame (getT_bad (neB h1)).1), Bears.int (getT_bad (neB h1)).2, trivial⟩, fun h1 => ?_⟩
  replace h1 : stE s = 0 := eqB h1
  have hE := h1
  replace h : okRgs s := (st_ok h1).1
  clear h1
  have h8 := h.1
  have hw := okRgs_len h
  refine ⟨hw, ?_⟩
  --WALK
  refine ⟨{ i : Nat // i ≤ nG s }, 8, fun i => ([(14, .dat i64 (.I i.1)), (13, .dat i64 (.I (nG s))), (12, .dat (.slice ringS) (s.nth 0)), (3, .own 7 (.slice storedS)), (0, .yld 6), (1, .ptr 5 (.slice ringS) [] (.slice ringS))],
    [(7, .grow (.slice storedS) (lsD s i.1)), (6, .loop .ready), (5, .box (.slice ringS) (.dat (.slice ringS) (s.nth 0))), (4, .box .ref (.mp 3 idS storedS)), (3, .map idS storedS (mpY [])), (2, .box storedS (.dat storedS (D0 storedS))), (1, .box idS (.dat idS d)), (0, .box storeS (.dat storeS s))]), fun i => nG s - i.1,
    ⟨0, by omega⟩, ⟨[], rfl, ⟨rfl, rfl, rfl, rfl, rfl, rfl, trivial⟩, ⟨gro (lsD_0 s), rfl, rfl, rfl, rfl, rfl, rfl, rfl, trivial⟩⟩, ?_⟩
  intro x
  obtain ⟨i, hi⟩ := x
  refine ⟨fun h1 => ?_, fun h1 => ?_⟩
  · have hk2 : i < nG s := ltN h1
    clear h1
    have hlD : (lsD s i).length = nG s := lsD_len (by omega)
    have hc := h.2 i hk2
    have e : (if chk (rgAt s i) ≠ 0 then [] else fromL (rgAt s i) 0 (fromN (rgAt s i) 0)) = evs (rgAt s i) := by
      rw [if_neg (by simp [hc])]; exact fromL_zero (chk_bad hc)
    refine ⟨ix hk2, by show 0 ≤ (i : Int) ∧ (i : Int) < ((lsD s i).length : Int); omega, ⟨i + 1, hk2⟩, ⟨[], rfl, ⟨slot (i64_1 (n := i) (by omega)), rfl, rfl, rfl, rfl, rfl, trivial⟩, ⟨gro ?_, rfl, rfl, rfl, rfl, rfl, rfl, rfl, trivial⟩⟩, stepLt hk2⟩
    show (lsD s i).set i (D.puts (.slice storedS) ((lsD s i).getD i .Z) [] (.L (if chk (rgAt s i) ≠ 0 then [] else fromL (rgAt s i) 0 (fromN (rgAt s i) 0)))) = lsD s (i + 1)
    rw [D.puts_nil, e]; exact lsD_set hk2
  · have he : i = nG s := geN hi h1
    clear h1
    refine ⟨{ x : List D × List (List D) // Mrg keyO (lsts s) x.1 x.2 ∧ True }, 8, fun x => ([(3, .own 7 (.slice storedS)), (0, .yld 6), (1, .ptr 5 (.slice ringS) [] (.slice ringS))],
      [(7, .grow (.slice storedS) (x.1.2.map D.L)), (6, .loop .ready), (5, .box (.slice ringS) (.dat (.slice ringS) (s.nth 0))), (4, .box .ref (.mp 3 idS storedS)), (3, .map idS storedS (mpY x.1.1)), (2, .box storedS (.dat storedS (D0 storedS))), (1, .box idS (.dat idS d)), (0, .box storeS (.dat storeS s))]), fun x => (flat x.1.2).length,
      ⟨([], lsts s), .start (lsts_sorted h), trivial⟩, ⟨[], rfl, ⟨rfl, rfl, rfl, trivial⟩, ⟨gro ((congrArg (lsD s) he).trans (lsD_all s)), rfl, rfl, rfl, rfl, rfl, rfl, rfl, trivial⟩⟩, ?_⟩
    intro x
    obtain ⟨⟨Y, ls⟩, hM, hinv⟩ := x
    simp only at hM hinv
    have hll : ls.length = nG s := by rw [hM.len, lsts, List.length_map]; rfl
    refine ⟨{ x : Nat × Int // x.1 ≤ ls.length ∧ Fst keyO ls x.1 x.2 }, 8, fun x => ([(30, .dat i64 (.I x.1.1)), (29, .dat i64 (.I (ls.map D.L).length)), (28, .own 7 (.slice storedS)), (6, .dat i64 (.I x.1.2)), (3, .own 7 (.slice storedS)), (0, .yld 6), (1, .ptr 5 (.slice ringS) [] (.slice ringS))],
      [(7, .grow (.slice storedS) (ls.map D.L)), (6, .loop .ready), (5, .box (.slice ringS) (.dat (.slice ringS) (s.nth 0))), (4, .box .ref (.mp 3 idS storedS)), (3, .map idS storedS (mpY Y)), (2, .box storedS (.dat storedS (D0 storedS))), (1, .box idS (.dat idS d)), (0, .box storeS (.dat storeS s))]), fun x => ls.length - x.1.1,
      ⟨(0, -1), by simp, .start ls⟩, ⟨[], rfl, ⟨rfl, rfl, rfl, rfl, rfl, rfl, rfl, trivial⟩, ⟨rfl, rfl, rfl, rfl, rfl, rfl, rfl, rfl, trivial⟩⟩, ?_⟩
    intro x
    obtain ⟨⟨i, f⟩, hi, hF⟩ := x
    simp only at hi hF
    have hml : (ls.map D.L).length = ls.length := List.length_map ..
    have f0 : ltB f 0 = false → 0 ≤ f := fun h => by simp only [ltB_false] at h; exact h
    have fb : ltB f 0 = false → 0 ≤ f ∧ f < ((ls.map D.L).length : Int) := fun h => by
      have h1 := (hF.some (f0 h)).1
      have h2 := f0 h
      omega
    have fl : ltB f 0 = false → ((ls.map D.L).getD f.toNat .Z).list = ls.getD f.toNat [] := fun h => mapL_get (by have := fb h; omega)
    have fn : ltB f 0 = false → 0 < (((ls.map D.L).getD f.toNat .Z).list.length : Int) := fun h => by
      rw [fl h]
      have := (hF.some (f0 h)).2.1
      have := List.length_pos_iff.2 this
      omega
    refine ⟨fun h1 => ?_, fun h1 => ?_⟩
    · have hk : i < ls.length := by have : i < (ls.map D.L).length := ltN h1; omega
      clear h1
      have gl : ((ls.map D.L).getD i .Z).list = ls.getD i [] := mapL_get hk
      refine ⟨(by show 0 ≤ (i : Int) ∧ (i : Int) < ((ls.map D.L).length : Int); omega), fun h1 => ⟨Int.le_refl 0, ltT (keyOne h1.2)⟩, fun h1 => ⟨(fb h1.1).1, (fb h1.1).2⟩, fun h1 => ⟨Int.le_refl 0, fn h1.1⟩, by kernel_rfl, fun h1 => ?_, fun h1 => ?_⟩
      all_goals replace h1 : (ltB 0 (((ls.map D.L).getD i .Z).list.length : Int) && (ltB f 0 || ltB (keyO (((ls.map D.L).getD i .Z).list.getD 0 .Z)) (keyO (((ls.map D.L).getD f.toNat .Z).list.getD 0 .Z)))) = _ := h1
      all_goals rw [gl] at h1
      · rw [Bool.and_eq_true, Bool.or_eq_true] at h1
        have hne : ls.getD i [] ≠ [] := fun e => by rw [e] at h1; simp at h1
        refine ⟨⟨(i + 1, (i : Int)), hk, hF.take hne ?_⟩, ⟨[], rfl, ⟨slot (i64_1 (n := i) (by omega)), rfl, rfl, rfl, rfl, rfl, rfl, trivial⟩, ⟨rfl, rfl, rfl, rfl, rfl, rfl, rfl, rfl, trivial⟩⟩, stepLt hk⟩
        by_cases hf : f < 0
        · exact .inl hf
        · rcases h1.2 with h2 | h2
          · simp only [ltB_true] at h2; exact .inl h2
          · rw [fl (by simp only [ltB_false]; omega)] at h2
            simp only [ltB_true] at h2; exact .inr h2
      · refine ⟨⟨(i + 1, f), hk, hF.skip ?_⟩, ⟨[], rfl, ⟨slot (i64_1 (n := i) (by omega)), rfl, rfl, rfl, rfl, rfl, rfl, trivial⟩, ⟨rfl, rfl, rfl, rfl, rfl, rfl, rfl, rfl, trivial⟩⟩, stepLt hk⟩
        by_cases hne : ls.getD i [] = []
        · exact .inl hne
        · right
          have hpos : ltB 0 ((ls.getD i []).length : Int) = true := by
            have := List.length_pos_iff.2 hne
            simp only [ltB_true]; omega
          rw [hpos, Bool.true_and, Bool.or_eq_false_iff] at h1
          refine ⟨f0 h1.1, ?_⟩
          have h2 := h1.2
          rw [fl h1.1] at h2
          simpa only [ltB_false] using h2
    · have he : i = ls.length := geN hi (by rw [← hml]; exact h1)
      clear h1
      subst he
      refine ⟨fun h1 => ⟨(fb h1).1, (fb h1).2⟩, fun h1 => ⟨Int.le_refl 0, fn h1⟩, fun h1 => ?_, fun h1 => ?_⟩
      · replace h1 : ltB f 0 = false := h1
        obtain ⟨x, hx⟩ : ∃ x, x = (ls.getD f.toNat []).getD 0 .Z := ⟨_, rfl⟩
        have hst := hM.step hF (f0 h1)
        rw [← hx] at hst
        have hxm : ((ls.map D.L).getD f.toNat .Z).list.getD 0 .Z = x := by rw [fl h1, hx]
        have hset : (ls.map D.L).set f.toNat (D.puts (.slice storedS) ((ls.map D.L).getD f.toNat .Z) [] (.L ((((ls.map D.L).getD f.toNat .Z).list.drop (1 : Int).toNat).take ((((ls.map D.L).getD f.toNat .Z).list.length : Int) - 1).toNat))) = (ls.set f.toNat ((ls.getD f.toNat []).drop 1)).map D.L := by
          rw [D.puts_nil, fl h1]; exact setL_drop _ _
        have hslb : 0 ≤ (1 : Int) ∧ (1 : Int) ≤ (((ls.map D.L).getD f.toNat .Z).list.length : Int) ∧ (((ls.map D.L).getD f.toNat .Z).list.length : Int) ≤ (((ls.map D.L).getD f.toNat .Z).list.length : Int) := by have := fn h1; omega
        have hmu : (flat (ls.set f.toNat ((ls.getD f.toNat []).drop 1))).length < (flat ls).length := by
          have h2 := hM.count
          have h3 := hst.count
          rw [List.length_append, List.length_singleton] at h3
          omega
        have hb := fb h1
        refine ⟨fun h2 => absurd (show (ltB f 0 || false) = true from h2) (by rw [h1]; simp), fun h2 => ⟨hb, hslb, hb, ⟨(Y ++ [x], ls.set f.toNat ((ls.getD f.toNat []).drop 1)), hst, trivial⟩, ⟨[], rfl, ⟨rfl, rfl, rfl, trivial⟩, ⟨gro hset, rfl, rfl, rfl, congrArg (fun es => some (VO.map idS storedS es)) ?_, rfl, rfl, rfl, trivial⟩⟩, hmu⟩⟩
        show mPutS [u64, u64] ((((ls.map D.L).getD f.toNat .Z).list.getD 0 .Z).nth 0) (((ls.map D.L).getD f.toNat .Z).list.getD 0 .Z) (mpY Y) = mpY (Y ++ [x])
        rw [hxm, mpY_snoc]
      · replace h1 : ltB f 0 = true := h1
        have hf : f < 0 := by simpa only [ltB_true] using h1
        obtain ⟨hYp, hYs⟩ := hM.done hF hf
        refine ⟨fun _ => ⟨fun h2 => ⟨Bears.same (eqSame ?_), Bears.int ?_, trivial⟩, fun h2 => ⟨Bears.same (eqSame ?_), Bears.int ?_, trivial⟩⟩, fun h2 => absurd (show (ltB f 0 || true) = false from h2) (by rw [h1]; simp)⟩
        all_goals replace h2 : (!mHasS [u64, u64] d (mpY Y)) = _ := h2
        · exact (get_no hE hYp (by simpa using h2)).1
        · exact (get_no hE hYp (by simpa using h2)).2
        · exact (get_yes hE hYp (by simpa using h2)).1
        · exact (get_yes hE hYp (by simpa using h2)).2
theorem get_ok : SumOK Try.prog 33 sGetT := sumOK_of_vc (c := cGt) (CtxOK.of tabTOK refsGOK (.cons checkT_ok (.cons listP_ok .nil)) (.cons rfl rfl (by decide) (.cons rfl rfl (by decide) .nil)) mpsTOK) mixed Try.func33 rfl (by decide) @get_fun
end Go.Proofs.Ytpfpgjkbnjnjnaa
