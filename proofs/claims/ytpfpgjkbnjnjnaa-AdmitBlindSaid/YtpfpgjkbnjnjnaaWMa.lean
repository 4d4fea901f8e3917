/- Gates: which are right; both Checks. -/
import Derived.Test.YtpfpgjkbnjnjnaaWTi
import Derived.Test.YtpfpgjkbnjnjnaaWCj
import Derived.Test.YtpfpgjkbnjnjnaaWRc
import Derived.Test.YtpfpgjkbnjnjnaaWVnH
namespace Go.Proofs.Ytpfpgjkbnjnjnaa
open Go Go.Vm Rg
set_option linter.unusedSimpArgs false
set_option linter.unusedVariables false
set_option maxRecDepth 10000
abbrev gateS : Sh := .struct [storeS, Cf.ratesS]
abbrev recS : Sh := .struct [i64, idS, u64, u64, u64]
abbrev kindS : Sh := .struct [u64, i64]
def tabM : List (Nat × Sh) := [(32, gateS), (58, recS), (121, kindS), (96, .struct [gateS, Cf.configS]), (30, Cf.ratesS), (28, .slice i64)] ++ tabT
def mpsM : List (Nat × MI) := (119, .map kindS i64) :: mpsT
def refsM : List (Nat × Value) := (119, .map none) :: refsT
theorem tabMOK : tabB Try.prog tabM = true := by kernel_rfl
theorem mpsMOK : mapsB Try.prog mpsM = true := by kernel_rfl
theorem refsMOK : refsB Try.prog refsM = true := by kernel_rfl
theorem ctxM {l : List (Nat × Sum)} (h : SumsOK Try.prog l) : CtxOK Try.prog ⟨tabM, refsM, l, [], keep, mpsM⟩ := CtxOK.of tabMOK refsMOK h FunsOK.nil mpsMOK
def c0M : Ctx := ⟨tabM, refsM, [], [], keep, mpsM⟩
theorem eqKd (a b : D) : eqD kindS a b = true ↔ (a.nth 0).int = (b.nth 0).int ∧ (a.nth 1).int = (b.nth 1).int := by
  simp [eqD, eqDs]
theorem eqKd_false (a b : D) : eqD kindS a b = false ↔ ¬ ((a.nth 0).int = (b.nth 0).int ∧ (a.nth 1).int = (b.nth 1).int) := by
  rw [← eqKd, Bool.not_eq_true]
theorem hasK_put (k k' v : D) : ∀ es : List (D × D), mHasS [u64, i64] k (mPutS [u64, i64] k' v es) = (eqD kindS k k' || mHasS [u64, i64] k es)
  | [] => by simp only [mPutS, mHasS]
  | (k1, v1) :: es => by
    cases h : eqD kindS k' k1 with
    | true =>
      have h' := (eqKd _ _).1 h
      have e : eqD kindS k k' = eqD kindS k k1 := by
        rw [Bool.eq_iff_iff, eqKd, eqKd, h'.1, h'.2]
      have e2 : mPutS [u64, i64] k' v ((k1, v1) :: es) = (k', v) :: es := by simp only [mPutS, h]
      rw [e2]
      show (eqD kindS k k' || mHasS [u64, i64] k es) = (eqD kindS k k' || (eqD kindS k k1 || mHasS [u64, i64] k es))
      rw [e]; cases eqD kindS k k1 <;> rfl
    | false =>
      have e2 : mPutS [u64, i64] k' v ((k1, v1) :: es) = (k1, v1) :: mPutS [u64, i64] k' v es := by simp only [mPutS, h]
      rw [e2]
      show (eqD kindS k k1 || mHasS [u64, i64] k (mPutS [u64, i64] k' v es)) = (eqD kindS k k' || (eqD kindS k k1 || mHasS [u64, i64] k es))
      rw [hasK_put k k' v es]
      cases eqD kindS k k1 <;> cases eqD kindS k k' <;> rfl
theorem getK_put (z k k' v : D) : ∀ es : List (D × D), mGetS [u64, i64] z k (mPutS [u64, i64] k' v es) = if eqD kindS k k' = true then v else mGetS [u64, i64] z k es
  | [] => by
    show (match eqD kindS k k' with | true => v | false => z) = _
    cases eqD kindS k k' <;> rfl
  | (k1, v1) :: es => by
    cases h : eqD kindS k' k1 with
    | true =>
      have h' := (eqKd _ _).1 h
      have e : eqD kindS k k' = eqD kindS k k1 := by
        rw [Bool.eq_iff_iff, eqKd, eqKd, h'.1, h'.2]
      have e2 : mPutS [u64, i64] k' v ((k1, v1) :: es) = (k', v) :: es := by simp only [mPutS, h]
      rw [e2]
      show (match eqD kindS k k' with | true => v | false => mGetS [u64, i64] z k es) = if eqD kindS k k' = true then v else (match eqD kindS k k1 with | true => v1 | false => mGetS [u64, i64] z k es)
      rw [e]; cases eqD kindS k k1 <;> rfl
    | false =>
      have e2 : mPutS [u64, i64] k' v ((k1, v1) :: es) = (k1, v1) :: mPutS [u64, i64] k' v es := by simp only [mPutS, h]
      rw [e2]
      show (match eqD kindS k k1 with | true => v1 | false => mGetS [u64, i64] z k (mPutS [u64, i64] k' v es)) = if eqD kindS k k' = true then v else (match eqD kindS k k1 with | true => v1 | false => mGetS [u64, i64] z k es)
      rw [getK_put z k k' v es]
      cases h1 : eqD kindS k k1 with
      | false => rfl
      | true =>
        have h2 : eqD kindS k k' = false := by
          rw [eqKd_false]; rw [eqKd_false] at h; rw [eqKd] at h1
          intro h3; exact h ⟨h3.1 ▸ h1.1, h3.2 ▸ h1.2⟩
        rw [h2]; rfl
def gS (g : D) : D := g.nth 0
def gR (g : D) : D := g.nth 1
def szG (s : D) (i : Nat) : Int := ((rgAt s i).nth 1).int
def okAt (c s : D) (i : Nat) : Bool := labG s i == Cf.labAt c i && szG s i == Cf.sizeAt c i
def fitB (c s : D) : Bool := (List.range (Cf.nC c)).all (okAt c s)
def lenBad (c s : D) : Bool := (nG s : Int) != (Cf.nC c : Int) || (s.nth 3).int != (c.nth 3).int
/-- The error of a gate. -/
def gkE (c g : D) : Int := if Cf.chE c ≠ 0 then Cf.chE c else if stE (gS g) ≠ 0 then stE (gS g) else if lenBad c (gS g) = true then 3 else if fitB c (gS g) = false then 3 else Cf.qk c (gR g)
def sGk : Sum := ⟨[Cf.configS, gateS], fun _ => none, fun
  | [c, g] => .dat i64 (.I (gkE c g))
  | _ => .und⟩
theorem gk_1 {c g : D} (h : Cf.chE c ≠ 0) : gkE c g = Cf.chE c := if_pos h
theorem gk_2 {c g : D} (h : Cf.chE c = 0) (h2 : stE (gS g) ≠ 0) : gkE c g = stE (gS g) := by rw [gkE, if_neg (by simp [h]), if_pos h2]
theorem gk_3 {c g : D} (h : Cf.chE c = 0) (h2 : stE (gS g) = 0) (h3 : lenBad c (gS g) = true) : gkE c g = 3 := by rw [gkE, if_neg (by simp [h]), if_neg (by simp [h2]), if_pos h3]
theorem gk_4 {c g : D} (h : Cf.chE c = 0) (h2 : stE (gS g) = 0) (h3 : lenBad c (gS g) = false) {i : Nat} (hi : i < Cf.nC c) (h4 : okAt c (gS g) i = false) : gkE c g = 3 := by
  rw [gkE, if_neg (by simp [h]), if_neg (by simp [h2]), if_neg (by simp [h3]), if_pos (show fitB c (gS g) = false from not_all_range hi h4)]
theorem gk_5 {c g : D} (h : Cf.chE c = 0) (h2 : stE (gS g) = 0) (h3 : lenBad c (gS g) = false) (h4 : ∀ i, i < Cf.nC c → okAt c (gS g) i = true) : gkE c g = Cf.qk c (gR g) := by
  have e : fitB c (gS g) = true := all_range h4
  rw [gkE, if_neg (by simp [h]), if_neg (by simp [h2]), if_neg (by simp [h3]), if_neg (by rw [e]; decide)]
def keyG (s : D) (i : Nat) : D := .L [.I (labG s i), .I (szG s i)]
def keyC (c : D) (i : Nat) : D := .L [.I (Cf.labAt c i), .I (Cf.sizeAt c i)]
def mpK (s : D) : Nat → List (D × D)
  | 0 => []
  | i + 1 => mPutS [u64, i64] (keyG s i) (.I (i : Int)) (mpK s i)
theorem mpK_no {s d : D} : ∀ {k : Nat}, mHasS [u64, i64] d (mpK s k) = false → ∀ j, j < k → eqD kindS d (keyG s j) = false
  | k + 1, h, j, hj => by
    rw [mpK, hasK_put, Bool.or_eq_false_iff] at h
    rcases Nat.lt_or_eq_of_le (Nat.le_of_lt_succ hj) with e | e
    · exact mpK_no h.2 j e
    · subst e; exact h.1
theorem mpK_yes {s d z : D} : ∀ {k : Nat}, mHasS [u64, i64] d (mpK s k) = true → ∃ i, i < k ∧ eqD kindS d (keyG s i) = true ∧ (mGetS [u64, i64] z d (mpK s k)).int = i
  | k + 1, h => by
    rw [mpK, hasK_put] at h
    rw [mpK, getK_put]
    by_cases hk : eqD kindS d (keyG s k) = true
    · exact ⟨k, Nat.lt_succ_self k, hk, by rw [if_pos hk]; rfl⟩
    · rw [Bool.eq_false_iff.2 hk, Bool.false_or] at h
      obtain ⟨i, h1, h2, h3⟩ := mpK_yes (z := z) h
      exact ⟨i, by omega, h2, by rw [if_neg hk]; exact h3⟩
theorem key_ok {c s : D} {i j : Nat} : eqD kindS (keyC c i) (keyG s j) = true ↔ labG s j = Cf.labAt c i ∧ szG s j = Cf.sizeAt c i := by
  rw [eqKd]
  show Cf.labAt c i = labG s j ∧ Cf.sizeAt c i = szG s j ↔ _
  exact ⟨fun h => ⟨h.1.symm, h.2.symm⟩, fun h => ⟨h.1.symm, h.2.symm⟩⟩
theorem look_bad {c s z : D} {i : Nat} (hi : i < nG s) (hd : dupG s = false) (h : (!mHasS [u64, i64] (keyC c i) (mpK s (nG s)) || (mGetS [u64, i64] z (keyC c i) (mpK s (nG s))).int != (i : Int)) = true) : okAt c s i = false := by
  rw [Bool.eq_false_iff]
  intro hok
  simp only [okAt, Bool.and_eq_true, beq_iff_eq] at hok
  have hk : eqD kindS (keyC c i) (keyG s i) = true := key_ok.2 hok
  cases hh : mHasS [u64, i64] (keyC c i) (mpK s (nG s)) with
  | false =>
    have := mpK_no hh i hi
    rw [this] at hk; cases hk
  | true =>
    obtain ⟨j, h1, h2, h3⟩ := mpK_yes (z := z) hh
    have e : j = i := lab_inj hd hi h1 (by rw [(key_ok.1 h2).1, hok.1])
    rw [hh, h3, e] at h
    simp at h
theorem look_ok {c s z : D} {i : Nat} (h : (!mHasS [u64, i64] (keyC c i) (mpK s (nG s)) || (mGetS [u64, i64] z (keyC c i) (mpK s (nG s))).int != (i : Int)) = false) : okAt c s i = true := by
  simp only [Bool.or_eq_false_iff, Bool.not_eq_false', bne_eq_false_iff_eq] at h
  obtain ⟨j, h1, h2, h3⟩ := mpK_yes (z := z) h.1
  have e : j = i := by have := h.2; omega
  subst e
  simp only [okAt, Bool.and_eq_true, beq_iff_eq]
  exact key_ok.1 h2
def cGk : Ctx := ⟨tabM, refsM, [(41, Cf.sCheckC), (42, sChk), (43, Cf.sQk)], [], keep, mpsM⟩
theorem bneT {a : Int} (h : (a != 0) = true) : a ≠ 0 := by simpa using h
theorem bneF {a : Int} (h : (a != 0) = false) : a = 0 := by simpa using h
theorem eqT {a : Int} (h : (a == 0) = true) : a = 0 := by simpa using h
theorem eqF {a : Int} (h : (a == 0) = false) : a ≠ 0 := by simpa using h
theorem nw_rings {s : D} (h : stE s = 0) : nG s ≤ 8 := (st_ok h).1.1
theorem gk_fun : FunOK cGk 100 Try.f30 sGk := fun c hc g hg _ => by
  refine ⟨fun h1 => Bears.int (gk_1 (bneT h1)).symm, fun h1 => ⟨fun h2 => Bears.int (gk_2 (bneF h1) (bneT h2)).symm, fun h2 => ⟨fun h3 => Bears.int (gk_3 (bneF h1) (bneF h2) h3).symm, fun h3 => ?_⟩⟩⟩
  have e1 : Cf.chE c = 0 := bneF h1
  have e2 : stE (gS g) = 0 := bneF h2
  have e3 : lenBad c (gS g) = false := h3
  clear h1 h2 h3
  have h8 := nw_rings e2
  have hn : nG (gS g) = Cf.nC c := by
    have h := e3
    simp only [lenBad, Bool.or_eq_false_iff, bne_eq_false_iff_eq] at h
    omega
  refine ⟨{ i : Nat // i ≤ nG (gS g) }, 3, fun i => ([(50, .dat i64 (.I i.1)), (49, .dat i64 (.I (nG (gS g)))), (48, .dat (.slice ringS) ((gS g).nth 0)), (8, .mp 2 kindS i64), (3, .ptr 1 gateS [] gateS), (2, .ptr 0 Cf.configS [] Cf.configS)], [(2, .map kindS i64 (mpK (gS g) i.1)), (1, .box gateS (.dat gateS g)), (0, .box Cf.configS (.dat Cf.configS c))]), fun i => nG (gS g) - i.1,
    ⟨0, Nat.zero_le _⟩, ⟨[], rfl, ⟨rfl, rfl, rfl, rfl, rfl, rfl, trivial⟩, ⟨rfl, rfl, rfl, trivial⟩⟩, ?_⟩
  intro i
  obtain ⟨i, hi⟩ := i
  refine ⟨fun h1 => ⟨ix (ltN h1), ?_⟩, fun h1 => ?_⟩
  · have hlt : i < nG (gS g) := ltN h1
    exact ⟨⟨i + 1, hlt⟩, ⟨[], rfl, ⟨slot (i64_1 (n := i) (by omega)), rfl, rfl, rfl, rfl, rfl, trivial⟩, ⟨rfl, rfl, rfl, trivial⟩⟩, stepLt hlt⟩
  have e := geN hi h1
  subst e
  have hd : dupG (gS g) = false := (st_ok e2).2.1
  refine ⟨{ j : Nat // j ≤ Cf.nC c ∧ ∀ k, k < j → okAt c (gS g) k = true }, 3, fun j => ([(66, .dat i64 (.I j.1)), (65, .dat i64 (.I (Cf.nC c))), (64, .dat (.slice Cf.classS) (c.nth 0)), (8, .mp 2 kindS i64), (3, .ptr 1 gateS [] gateS), (2, .ptr 0 Cf.configS [] Cf.configS)], [(2, .map kindS i64 (mpK (gS g) (nG (gS g)))), (1, .box gateS (.dat gateS g)), (0, .box Cf.configS (.dat Cf.configS c))]), fun j => Cf.nC c - j.1,
    ⟨0, Nat.zero_le _, fun k h => by omega⟩, ⟨[], rfl, ⟨rfl, rfl, rfl, rfl, rfl, rfl, trivial⟩, ⟨rfl, rfl, rfl, trivial⟩⟩, ?_⟩
  intro j
  obtain ⟨j, hj, h0⟩ := j
  refine ⟨fun h1 => ⟨ix (ltN h1), fun h2 => Bears.int ?_, fun h2 => ?_⟩, fun h1 => Bears.int ?_⟩
  · have hlt : j < Cf.nC c := ltN h1
    exact (gk_4 e1 e2 e3 hlt (look_bad (z := D0 i64) (by rw [hn]; exact hlt) hd h2)).symm
  · have hlt : j < Cf.nC c := ltN h1
    exact ⟨⟨j + 1, hlt, upto h0 (look_ok (z := D0 i64) h2)⟩, ⟨[], rfl, ⟨slot (i64_1 (n := j) (by omega)), rfl, rfl, rfl, rfl, rfl, trivial⟩, ⟨rfl, rfl, rfl, trivial⟩⟩, stepLt hlt⟩
  · have e := geN hj h1
    exact (gk_5 e1 e2 e3 fun k hk => h0 k (by rw [e]; exact hk)).symm
def cGkR : Ctx := ⟨tabM, refsM, [], [], keep, mpsM⟩
/-! ### Admitting -/
def evBad (e : D) : Bool := ltB (e.nth 1).int 0 || ltB 25 (e.nth 1).int
def paE (c g e : D) : Int := if evBad e = true then 11 else if Cf.useX c (gR g) (e.nth 0).int ≠ 0 then Cf.useX c (gR g) (e.nth 0).int else putTE (gS g) e
def paG (c g e : D) : D := if paE c g e ≠ 0 then D0 gateS else .L [putT (gS g) e, Cf.useU c (gR g) (e.nth 0).int]
def paX (c g e : D) : D := if paE c g e ≠ 0 then D0 storedS else putX (gS g) e
noncomputable def cPa : Ctx := ⟨tabM, refsM, [(49, Cf.sUse), (50, sPutT)], [(48, Try.f48)], keep, mpsM⟩
def sPa : Sum := ⟨[.struct [gateS, Cf.configS], eventS], fun _ => none, fun
  | [w, e] => .tup [.dat gateS (paG (w.nth 1) (w.nth 0) e), .dat storedS (paX (w.nth 1) (w.nth 0) e), .dat i64 (.I (paE (w.nth 1) (w.nth 0) e))]
  | _ => .und⟩
theorem pa_1 {c g e : D} (h : evBad e = true) : paE c g e = 11 ∧ paG c g e = D0 gateS ∧ paX c g e = D0 storedS := by
  have e1 : paE c g e = 11 := if_pos h
  exact ⟨e1, if_pos (by rw [e1]; decide), if_pos (by rw [e1]; decide)⟩
theorem pa_2 {c g e : D} (h : evBad e = false) (h2 : Cf.useX c (gR g) (e.nth 0).int ≠ 0) : paE c g e = Cf.useX c (gR g) (e.nth 0).int ∧ paG c g e = D0 gateS ∧ paX c g e = D0 storedS := by
  have e1 : paE c g e = Cf.useX c (gR g) (e.nth 0).int := by rw [paE, if_neg (by rw [h]; decide), if_pos h2]
  exact ⟨e1, if_pos (by rw [e1]; exact h2), if_pos (by rw [e1]; exact h2)⟩
theorem pa_3 {c g e : D} (h : evBad e = false) (h2 : Cf.useX c (gR g) (e.nth 0).int = 0) : paE c g e = putTE (gS g) e := by
  rw [paE, if_neg (by rw [h]; decide), if_neg (by simp [h2])]
theorem pa_4 {c g e : D} (h : evBad e = false) (h2 : Cf.useX c (gR g) (e.nth 0).int = 0) (h3 : putTE (gS g) e ≠ 0) : paE c g e = putTE (gS g) e ∧ paG c g e = D0 gateS ∧ paX c g e = D0 storedS := by
  have e1 := pa_3 h h2
  exact ⟨e1, if_pos (by rw [e1]; exact h3), if_pos (by rw [e1]; exact h3)⟩
theorem pa_0 {c g e : D} (h : evBad e = false) (h2 : Cf.useX c (gR g) (e.nth 0).int = 0) (h3 : putTE (gS g) e = 0) :
    paE c g e = 0 ∧ paG c g e = .L [putT (gS g) e, Cf.useU c (gR g) (e.nth 0).int] ∧ paX c g e = putX (gS g) e := by
  have e1 := (pa_3 h h2).trans h3
  exact ⟨e1, if_neg (by simp [e1]), if_neg (by simp [e1])⟩
theorem three {G X : D} {E : Int} {G' X' : D} {E' : Int} (h : E' = E ∧ G' = G ∧ X' = X) : Bears gateS G G' ∧ Bears storedS X X' ∧ Bears i64 (.I E) (.I E') ∧ True :=
  ⟨Bears.same (eqSame h.2.1.symm), Bears.same (eqSame h.2.2.symm), Bears.int h.1.symm, trivial⟩
theorem pa_fun : FunDOK cPa 100 Try.f32 sPa := fun w hw e he _ => by
  refine ⟨fun h1 => ⟨by kernel_rfl, fun h2 => three (pa_1 h1), fun h2 => (by cases h2)⟩, fun h1 => ⟨fun h2 => ⟨by kernel_rfl, fun h3 => three (pa_4 h1 (eqT h2) (bneT h3)), fun h3 => three ?_⟩, fun h2 => ⟨by kernel_rfl, fun h3 => three (pa_2 h1 (bneT h3)), fun h3 => absurd (bneF h3) (eqF h2)⟩⟩⟩
  have h3 : putTE (gS (w.nth 0)) e = 0 := bneF h3
  have h := pa_0 (c := w.nth 1) (g := w.nth 0) h1 (eqT h2) h3
  exact ⟨h.1.trans h3.symm, h.2⟩
def cPaR : Ctx := ⟨tabM, refsM, [], [], keep, mpsM⟩
def sPaR : Sum := ⟨[Cf.configS, gateS, eventS], fun _ => none, fun
  | [c, g, e] => .tup [.dat gateS (paG c g e), .dat storedS (paX c g e), .dat i64 (.I (paE c g e))]
  | _ => .und⟩
end Go.Proofs.Ytpfpgjkbnjnjnaa
