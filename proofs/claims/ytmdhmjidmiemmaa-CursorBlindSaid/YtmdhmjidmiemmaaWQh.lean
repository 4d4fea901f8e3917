/- Accounts of cursors: Works, Peek, Take. -/
import Derived.Test.YtmdhmjidmiemmaaWQg
namespace Go.Proofs.Ytmdhmjidmiemmaa
open Go Go.Vm Rg
set_option linter.unusedSimpArgs false
set_option linter.unusedVariables false
set_option maxRecDepth 10000
def wkQ (s c : D) : Bool := if ckE s c ≠ 0 then false else ltB 0 ((wtR s c).length : Int) || ltB 0 (lsT s c (nG s))
def sWk : Sum := ⟨[storeS, cursorS], fun _ => none, fun
  | [s, c] => .tup [.dat .bool (.B (wkQ s c)), .dat i64 (.I (ckE s c))]
  | _ => .und⟩
def pkE (s c : D) : Int := if ckE s c ≠ 0 then ckE s c else if wtR s c = [] then 7 else 0
def pkX (s c : D) : D := if pkE s c ≠ 0 then D0 storedS else (wtR s c).getD 0 .Z
def sPk : Sum := ⟨[storeS, cursorS], fun _ => none, fun
  | [s, c] => .tup [.dat storedS (pkX s c), .dat i64 (.I (pkE s c))]
  | _ => .und⟩
def tkE (s c : D) : Int := if ckE s c ≠ 0 then ckE s c else if ltB 0 (lsT s c (nG s)) = true then 18 else if wtR s c = [] then 7 else 0
def tkX (s c : D) : D := if tkE s c ≠ 0 then D0 storedS else (wtR s c).getD 0 .Z
def tkU (s c : D) (i : Nat) : List D := upd (fun k => .I (nxA c k)) (fun _ => .I (IntKind.u64.wrap (noS ((wtR s c).getD 0 .Z) + 1))) (fun k => labG s k == lbS ((wtR s c).getD 0 .Z)) i (nG s)
def tkC (s c : D) : D := if tkE s c ≠ 0 then D0 cursorS else .L [.I (cl c), .L (tkU s c (nG s))]
def sTk : Sum := ⟨[storeS, cursorS], fun _ => none, fun
  | [s, c] => .tup [.dat cursorS (tkC s c), .dat storedS (tkX s c), .dat i64 (.I (tkE s c))]
  | _ => .und⟩
theorem wtW_same {s c : D} (h : ckE s c = 0) : Same (.slice storedS) (.L (wtR s c)) (.L (wtW s c)) := sameQ (by rw [wtW_yes h])
theorem wkQ_no {s c : D} (h : ckE s c ≠ 0) : false = wkQ s c := by rw [wkQ, if_pos h]
theorem fs_len {s c : D} (h : stE s = 0) : leB 0 (fstN s c (nG s)) = ltB 0 ((wtR s c).length : Int) := by
  by_cases hf : fsQ s c < 0
  · have hf' : fstN s c (nG s) < 0 := hf
    rw [fs_none h hf, show leB 0 (fstN s c (nG s)) = false by rw [leB_false]; exact hf']; rfl
  · have hf' : 0 ≤ fstN s c (nG s) := Int.not_lt.1 hf
    have h1 := List.length_pos_iff.2 (fs_some h (Int.not_lt.1 hf)).2.2.1
    rw [show leB 0 (fstN s c (nG s)) = true by rw [leB_true]; exact hf']
    exact (show ltB 0 ((wtR s c).length : Int) = true by rw [ltB_true]; omega).symm
theorem pkE_ck {s c : D} (h : ckE s c ≠ 0) : pkE s c = ckE s c := by rw [pkE, if_pos h]
theorem pkE_7 {s c : D} (h : ckE s c = 0) (h2 : wtR s c = []) : pkE s c = 7 := by rw [pkE, if_neg (by simp [h]), if_pos h2]
theorem pkE_0 {s c : D} (h : ckE s c = 0) (h2 : wtR s c ≠ []) : pkE s c = 0 := by rw [pkE, if_neg (by simp [h]), if_neg h2]
theorem pkX_no {s c : D} (h : pkE s c ≠ 0) : Same storedS (.L [D0 idS, D0 u64, D0 u64, D0 i64, D0 i64]) (pkX s c) := sameQ (by rw [pkX, if_pos h]; rfl)
theorem tkE_ck {s c : D} (h : ckE s c ≠ 0) : tkE s c = ckE s c := by rw [tkE, if_pos h]
theorem tkE_18 {s c : D} (h : ckE s c = 0) (h2 : ltB 0 (lsT s c (nG s)) = true) : tkE s c = 18 := by rw [tkE, if_neg (by simp [h]), if_pos h2]
theorem tkE_7 {s c : D} (h : ckE s c = 0) (h2 : ltB 0 (lsT s c (nG s)) = false) (h3 : wtR s c = []) : tkE s c = 7 := by rw [tkE, if_neg (by simp [h]), if_neg (by simp [h2]), if_pos h3]
theorem tkE_0 {s c : D} (h : ckE s c = 0) (h2 : ltB 0 (lsT s c (nG s)) = false) (h3 : wtR s c ≠ []) : tkE s c = 0 := by rw [tkE, if_neg (by simp [h]), if_neg (by simp [h2]), if_neg h3]
theorem tkC_no {s c : D} (h : tkE s c ≠ 0) : Same cursorS (.L [D0 u64, .L []]) (tkC s c) := sameQ (by rw [tkC, if_pos h]; rfl)
theorem tkX_no {s c : D} (h : tkE s c ≠ 0) : Same storedS (D0 storedS) (tkX s c) := sameQ (by rw [tkX, if_pos h])
noncomputable def cPk : Ctx := ⟨tabQ, refsQ, [(22, sCkQ), (47, sLostQ), (57, sFi)], [(59, Try.f59), (78, Try.f78)], keep, mpsT⟩
theorem works_fun : FunOK cPk 200 Try.f25 sWk := fun s hs c hc h => by
  refine ⟨fun h1 => ⟨Bears.bool (wkQ_no (bneT h1)), Bears.int rfl, trivial⟩, fun h1 => ?_⟩
  have hk : ckE s c = 0 := bneF h1
  have ok := ck_ok hk
  refine ⟨⟨ok.len, ok.le8⟩, fun _ => ⟨ok.len, ok.le8⟩, Bears.bool ?_, Bears.int hk.symm, trivial⟩
  show (leB 0 (fstN s c (nG s)) || ltB 0 (lsT s c (nG s))) = wkQ s c
  rw [wkQ, if_neg (by simp [hk]), fs_len ok.st]
theorem peek_fun : FunOK cPk 200 Try.f36 sPk := fun s hs c hc h => by
  refine ⟨fun h1 => ⟨Bears.same (pkX_no (pkE_ck (bneT h1) ▸ bneT h1)), Bears.int (pkE_ck (bneT h1)).symm, trivial⟩, fun h1 => ?_⟩
  have hk : ckE s c = 0 := bneF h1
  have ok := ck_ok hk
  refine ⟨⟨ok.len, ok.le8⟩, fun h2 => ?_, fun h2 => ?_⟩
  all_goals replace h2 : ltB (fsQ s c) 0 = _ := h2
  · rw [ltB_true] at h2
    have e := pkE_7 hk (fs_none ok.st h2)
    exact ⟨Bears.same (pkX_no (by rw [e]; decide)), Bears.int e.symm, trivial⟩
  · rw [ltB_false] at h2
    have hs := fs_some ok.st h2
    have e := pkE_0 hk hs.2.2.1
    refine ⟨Bears.same ?_, Bears.int e.symm, trivial⟩
    show Same storedS (if fstN s c (nG s) < 0 then D0 storedS else fsX s c) (pkX s c)
    rw [if_neg (show ¬ fstN s c (nG s) < 0 by have : 0 ≤ fstN s c (nG s) := h2; omega), pkX, if_neg (by simp [e]), hs.2.2.2]
    exact Same.rfl
theorem take_fun : FunOK cPk 200 Try.f32 sTk := fun s hs c hc h => by
  refine ⟨fun h1 => ⟨by kernel_rfl, Bears.same (tkC_no (tkE_ck (bneT h1) ▸ bneT h1)), Bears.same (tkX_no (tkE_ck (bneT h1) ▸ bneT h1)), Bears.int (tkE_ck (bneT h1)).symm, trivial⟩, fun h1 => ?_⟩
  have hk : ckE s c = 0 := bneF h1
  have ok := ck_ok hk
  have hl := ok.len
  have h8 := ok.le8
  clear h1
  refine ⟨⟨ok.len, ok.le8⟩, fun h2 => ?_, fun h2 => ⟨⟨ok.len, ok.le8⟩, fun h3 => ?_, fun h3 b h4 => ?_⟩⟩
  · have e := tkE_18 hk h2
    exact ⟨by kernel_rfl, Bears.same (tkC_no (by rw [e]; decide)), Bears.same (tkX_no (by rw [e]; decide)), Bears.int e.symm, trivial⟩
  all_goals replace h3 : ltB (fsQ s c) 0 = _ := h3
  · rw [ltB_true] at h3
    have e := tkE_7 hk h2 (fs_none ok.st h3)
    exact ⟨Bears.same (tkC_no (by rw [e]; decide)), Bears.same (tkX_no (by rw [e]; decide)), Bears.int e.symm, trivial⟩
  rw [ltB_false] at h3
  have hs := fs_some ok.st h3
  have ha := fsX_at ok.st h3
  have e := tkE_0 hk h2 hs.2.2.1
  have hneg : ¬ fstN s c (nG s) < 0 := by have : 0 ≤ fstN s c (nG s) := h3; omega
  have hX : Same storedS (if fstN s c (nG s) < 0 then D0 storedS else (wtF s c (fstN s c (nG s)).toNat).getD 0 .Z) (tkX s c) := by
    rw [if_neg hneg, tkX, if_neg (by simp [e]), hs.2.2.2]
    exact Same.rfl
  refine ⟨fun h5 => ?_, fun h5 => ⟨?_, ?_, by kernel_rfl, Bears.same ?_, Bears.same hX, Bears.int e.symm, trivial⟩⟩
  · have hn : nx c = [] := h4 h5
    rw [hn] at hl
    have h6 : nG s = 0 := hl.symm
    have := hs.1
    omega
  · show 0 + (nx c).length ≤ 1073741824
    omega
  · show 0 ≤ fsQ s c ∧ fsQ s c < (([] ++ nx c).length : Int)
    rw [List.nil_append, hl]
    exact ⟨h3, hs.1⟩
  · show Same cursorS (.L [c.nth 0, .L (([] ++ nx c).set (fsQ s c).toNat (.I (IntKind.u64.wrap (noS (if fstN s c (nG s) < 0 then D0 storedS else fsX s c) + 1))))]) (tkC s c)
    rw [if_neg hneg, tkC, if_neg (by simp [e])]
    have h9 := hs.1
    have hlt : (fsQ s c).toNat < nG s := by omega
    refine curSame ?_ ?_
    · show (([] ++ nx c).set _ _).length = _
      rw [List.length_set, List.nil_append, tkU, upd_len, hl]
    · intro j hj
      replace hj : j < (([] ++ nx c).set (fsQ s c).toNat (.I (IntKind.u64.wrap (noS (fsX s c) + 1)))).length := hj
      rw [List.length_set, List.nil_append, hl] at hj
      show ((([] ++ nx c).set (fsQ s c).toNat (.I (IntKind.u64.wrap (noS (fsX s c) + 1)))).getD j .Z).int = _
      rw [List.nil_append, tkU, upd_get hj, hs.2.2.2, ha.1]
      by_cases hj2 : j = (fsQ s c).toNat
      · rw [hj2, if_pos ⟨hlt, by simp⟩, List.getD_eq_getElem?_getD, List.getElem?_set_self (by omega)]; rfl
      · rw [if_neg, List.getD_eq_getElem?_getD, List.getElem?_set_ne (fun h => hj2 h.symm)]
        · show _ = ((nx c).getD j .Z).int
          rw [List.getD_eq_getElem?_getD]
        · rintro ⟨_, h⟩
          exact hj2 (lab_inj (st_ok ok.st).2.1 hlt hj (by simpa using h))
def cPkR : Ctx := ⟨tabQ, refsQ, [(23, sCkQ), (56, sLostQ), (58, sWtR)], [], keep, mpsT⟩
theorem waitingR_fun : FunOK cPkR 200 Try.f27 sWt := fun s hs c hc h => by
  refine ⟨fun h1 => ⟨Bears.same (wtW_no (bneT h1)), Bears.int rfl, trivial⟩, fun h1 => ?_⟩
  have hk : ckE s c = 0 := bneF h1
  exact ⟨hk, Bears.same (wtW_same hk), Bears.int hk.symm, trivial⟩
theorem worksR_fun : FunOK cPkR 200 Try.f26 sWk := fun s hs c hc h => by
  refine ⟨fun h1 => ⟨Bears.bool (wkQ_no (bneT h1)), Bears.int rfl, trivial⟩, fun h1 => ?_⟩
  have hk : ckE s c = 0 := bneF h1
  have ok := ck_ok hk
  refine ⟨⟨ok.len, ok.le8⟩, fun _ => hk, Bears.bool ?_, Bears.int hk.symm, trivial⟩
  show (ltB 0 (lsT s c (nG s)) || ltB 0 ((wtR s c).length : Int)) = wkQ s c
  rw [wkQ, if_neg (by simp [hk]), Bool.or_comm]
theorem tkX_no' {s c : D} (h : tkE s c ≠ 0) : Same storedS (.L [D0 idS, D0 u64, D0 u64, D0 i64, D0 i64]) (tkX s c) := sameQ (by rw [tkX, if_pos h]; rfl)
def tkW (s c : D) (i : Nat) : List D := upd (fun k => (nx c).getD k .Z) (fun _ => .I (IntKind.u64.wrap (noS ((wtR s c).getD 0 .Z) + 1))) (fun k => labG s k == lbS ((wtR s c).getD 0 .Z)) i (nG s)
theorem tkW_0 {s c : D} (hl : (nx c).length = nG s) : [] ++ nx c = tkW s c 0 := by
  rw [skO_0 hl, skO, tkW, upd_0, upd_0]
def cTaR : Ctx := ⟨tabQ, refsQ, [(23, sCkQ), (56, sLostQ), (27, sWt), (37, sPk)], [], keep, mpsT⟩
def cPeR : Ctx := ⟨tabQ, refsQ, [(27, sWt)], [], keep, mpsT⟩
theorem peekR_fun : FunOK cPeR 200 Try.f37 sPk := fun s hs c hc h => by
  refine ⟨fun h1 => ⟨fun h2 => ?_, fun h2 => (by cases h2)⟩, fun h1 => ⟨fun h2 => ?_, fun h2 => ?_⟩⟩
  all_goals replace h1 : (ckE s c == 0 && ((wtW s c).length : Int) == 0) = _ := h1
  · simp only [Bool.and_eq_true, beq_iff_eq] at h1
    have hk := h1.1
    have e := pkE_7 hk (by rw [wtW_yes hk]; exact List.length_eq_zero_iff.1 (by omega))
    exact ⟨Bears.same (pkX_no (by rw [e]; decide)), Bears.int e.symm, trivial⟩
  all_goals replace h2 : (ckE s c != 0) = _ := h2
  · exact ⟨Bears.same (pkX_no (pkE_ck (bneT h2) ▸ bneT h2)), Bears.int (pkE_ck (bneT h2)).symm, trivial⟩
  · have hk : ckE s c = 0 := bneF h2
    rw [hk, beq_self_eq_true, Bool.true_and, beq_eq_false_iff_ne] at h1
    have hne : wtR s c ≠ [] := fun h => h1 (by rw [← wtW_yes hk, h]; rfl)
    have e := pkE_0 hk hne
    refine ⟨⟨Int.le_refl _, ?_⟩, Bears.same ?_, Bears.int e.symm, trivial⟩
    · show (0 : Int) < ((wtW s c).length : Int)
      omega
    · show Same storedS ((wtW s c).getD 0 .Z) (pkX s c)
      rw [pkX, if_neg (by simp [e]), wtW_yes hk]
      exact Same.rfl
theorem takeR_fun : FunOK cTaR 200 Try.f38 sTk := fun s hs c hc h => by
  refine ⟨fun h1 => ⟨Bears.same (tkC_no (tkE_ck (bneT h1) ▸ bneT h1)), Bears.same (tkX_no' (tkE_ck (bneT h1) ▸ bneT h1)), Bears.int (tkE_ck (bneT h1)).symm, trivial⟩, fun h1 => ?_⟩
  have hk : ckE s c = 0 := bneF h1
  have ok := ck_ok hk
  have hl := ok.len
  have h8 := ok.le8
  clear h1
  refine ⟨⟨ok.len, ok.le8⟩, fun h2 => ?_, fun h2 => ⟨fun h3 => ?_, fun h3 => ?_⟩⟩
  · have e := tkE_18 hk h2
    exact ⟨Bears.same (tkC_no (by rw [e]; decide)), Bears.same (tkX_no' (by rw [e]; decide)), Bears.int e.symm, trivial⟩
  all_goals replace h3 : (pkE s c != 0) = _ := h3
  · have h4 := bneT h3
    have hn : wtR s c = [] := by
      by_cases hn : wtR s c = []
      · exact hn
      · exact absurd (pkE_0 hk hn) h4
    have e := tkE_7 hk h2 hn
    exact ⟨Bears.same (tkC_no (by rw [e]; decide)), Bears.same (tkX_no' (by rw [e]; decide)), Bears.int (by rw [e]; exact pkE_7 hk hn), trivial⟩
  have h4 := bneF h3
  have hne : wtR s c ≠ [] := fun hn => by rw [pkE_7 hk hn] at h4; cases h4
  have e := tkE_0 hk h2 hne
  have eX : pkX s c = (wtR s c).getD 0 .Z := by rw [pkX, if_neg (by simp [h4])]
  refine ⟨?_, by kernel_rfl, ?_⟩
  · show 0 + (nx c).length ≤ 1073741824
    omega
  refine ⟨{ i : Nat // i ≤ nG s }, 23, fun i => ([(11, .dat i64 (.I i.1)), (10, .ptr 19 cursorS [] cursorS), (8, .ptr 4 storedS [] storedS), (5, .ptr 3 storedS [] storedS), (4, .ptr 2 cursorS [] cursorS), (2, .ptr 0 storeS [] storeS)],
    [(19, .box cursorS (.st [u64, .slice u64] [.dat u64 (.I (cl c)), .own 15 u64])), (15, .grow u64 (tkW s c i.1)), (4, .box storedS (.dat storedS (pkX s c))), (3, .box storedS (.dat storedS (D0 storedS))), (2, .box cursorS (.st [u64, .slice u64] [.dat u64 (.I 0), .cst (.slice none 0 0)])), (0, .box storeS (.dat storeS s))]), fun i => nG s - i.1,
    ⟨0, Nat.zero_le _⟩, ⟨[], rfl, ⟨rfl, rfl, rfl, rfl, rfl, rfl, trivial⟩, ⟨rfl, gro (tkW_0 hl), rfl, rfl, rfl, rfl, trivial⟩⟩, ?_⟩
  intro z
  obtain ⟨i, hi⟩ := z
  refine ⟨fun h1 => ?_, fun h1 => ?_⟩
  · have hlt : i < nG s := ltN h1
    clear h1
    have g4 : (i : Int) < ((tkW s c i).length : Int) := by rw [tkW, upd_len]; omega
    refine ⟨ix hlt, by kernel_rfl, fun h2 => ⟨⟨Int.natCast_nonneg _, g4⟩, ?_⟩, fun h2 => ?_⟩
    all_goals replace h2 : (labG s i == lbS (pkX s c)) = _ := h2
    all_goals rw [eX] at h2
    · refine ⟨⟨i + 1, hlt⟩, ⟨[], rfl, ⟨slot (i64_1 (n := i) (by omega)), rfl, rfl, rfl, rfl, rfl, trivial⟩, ⟨rfl, gro ?_, rfl, rfl, rfl, rfl, trivial⟩⟩, stepLt hlt⟩
      show (tkW s c i).set i (.I (IntKind.u64.wrap (noS (pkX s c) + 1))) = tkW s c (i + 1)
      rw [eX]
      exact upd_set (f := fun _ => .I (IntKind.u64.wrap (noS ((wtR s c).getD 0 .Z) + 1))) (b := fun k => labG s k == lbS ((wtR s c).getD 0 .Z)) hlt h2
    · exact ⟨⟨i + 1, hlt⟩, ⟨[], rfl, ⟨slot (i64_1 (n := i) (by omega)), rfl, rfl, rfl, rfl, rfl, trivial⟩, ⟨rfl, gro (upd_skip (b := fun k => labG s k == lbS ((wtR s c).getD 0 .Z)) h2), rfl, rfl, rfl, rfl, trivial⟩⟩, stepLt hlt⟩
  · have e1 : i = nG s := geN hi h1
    subst e1
    refine ⟨by kernel_rfl, Bears.same ?_, Bears.same ?_, Bears.int e.symm, trivial⟩
    · rw [tkC, if_neg (by simp [e])]
      refine curSame ?_ ?_
      · show (tkW s c (nG s)).length = _
        rw [tkW, tkU, upd_len, upd_len]
      · intro j hj
        replace hj : j < (tkW s c (nG s)).length := hj
        rw [tkW, upd_len] at hj
        show ((tkW s c (nG s)).getD j .Z).int = _
        rw [tkW, tkU, upd_get hj, upd_get hj]
        split <;> rfl
    · show Same storedS (pkX s c) (tkX s c)
      rw [eX, tkX, if_neg (by simp [e])]
      exact Same.rfl
end Go.Proofs.Ytmdhmjidmiemmaa
