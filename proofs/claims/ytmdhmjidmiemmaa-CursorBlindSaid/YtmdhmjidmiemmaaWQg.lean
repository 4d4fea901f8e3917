/- Accounts of cursors: Waiting, Works, Peek, Take. -/
import Derived.Test.YtmdhmjidmiemmaaWQf
namespace Go.Proofs.Ytmdhmjidmiemmaa
open Go Go.Vm Rg
set_option linter.unusedSimpArgs false
set_option linter.unusedVariables false
set_option maxRecDepth 10000
theorem wtF_len {s c : D} (h : stE s = 0) {i : Nat} (hi : i < nG s) : (wtF s c i).length ≤ 64 := by
  rw [wtF_eq h hi]
  have h1 := List.length_filter_le (wQ s c) (evs (rgAt s i))
  rw [evs_len] at h1
  have := cap64 ((st_ok h).1.2 i hi)
  omega
theorem wtU_len {s c : D} (h : stE s = 0) : ∀ {i : Nat}, i ≤ nG s → (wtU s c i).length ≤ 64 * i
  | 0, _ => by simp [wtU]
  | i + 1, hi => by
    have := wtU_len (c := c) h (i := i) (by omega)
    have := wtF_len (c := c) h (i := i) (by omega)
    rw [wtU, List.length_append]; omega
theorem wtF_inr {s c x : D} (hs : InR storeS s) (h : stE s = 0) {i : Nat} (hi : i < nG s) (hx : x ∈ wtF s c i) : InR storedS x := by
  rw [wtF_eq h hi, List.mem_filter] at hx
  obtain ⟨j, hj, rfl⟩ := mem_getD hx.1
  rw [evs_len] at hj
  rw [evs_get hj]
  have hb := chk_bad ((st_ok h).1.2 i hi)
  simp only [InR, InRs] at hs
  have hr := hs.1.2 i hi
  have := hr.2.2.2.2.1 (pl (rgAt s i) j) (pl_lt hb (by omega))
  simp only [InR, InRs]
  exact this
theorem wtU_inr {s c : D} (hs : InR storeS s) (h : stE s = 0) : ∀ x, x ∈ wtU s c (nG s) → InR storedS x := fun x hx => by
  obtain ⟨k, hk, hx⟩ := wtU_mem.1 hx
  exact wtF_inr hs h hk hx
theorem wtR_len {s c : D} (h : stE s = 0) : (wtR s c).length ≤ 512 := by
  have h1 := wtU_len (c := c) h (Nat.le_refl (nG s))
  have := (st_ok h).1.1
  rw [(wtU_perm h).length_eq]; omega
def wtW (s c : D) : List D := if ckE s c ≠ 0 then [] else wtR s c
def sWt : Sum := ⟨[storeS, cursorS], fun _ => none, fun
  | [s, c] => .tup [.dat (.slice storedS) (.L (wtW s c)), .dat i64 (.I (ckE s c))]
  | _ => .und⟩
theorem wtW_no {s c : D} (h : ckE s c ≠ 0) : Same (.slice storedS) (.L []) (.L (wtW s c)) := sameQ (by rw [wtW, if_pos h])
theorem wtW_yes {s c : D} (h : ckE s c = 0) : wtR s c = wtW s c := by rw [wtW, if_neg (by simp [h])]
noncomputable def cWt : Ctx := ⟨tabQ, refsQ, [(22, sCkQ), (55, sSees), (44, Rg.sFrom)], [(43, Try.f43), (67, Try.f67)], keep, (45 + 1000000, .msum (mSQ srtQ)) :: mpsT⟩
theorem wait_fun : FunOK cWt 200 Try.f12 sWt := fun s hs c hc h => by
  refine ⟨fun h1 => ⟨Bears.same (wtW_no (bneT h1)), Bears.int rfl, trivial⟩, fun h1 => ?_⟩
  have hk : ckE s c = 0 := bneF h1
  have ok := ck_ok hk
  have h8 := ok.le8
  have hl := ok.len
  have h0 := ok.st
  clear h1
  have gN : ∀ {k : Nat}, k < nG s → 0 ≤ (k : Int) ∧ (k : Int) < ((nx c).length : Int) := fun h => by omega
  refine ⟨0, Empty, 0, fun z => z.elim, fun z => z.elim, ?_, fun z => z.elim⟩
  refine ⟨{ i : Nat // i ≤ nG s }, 9, fun i => ([(9, .dat i64 (.I i.1)), (8, .dat i64 (.I (nG s))), (7, .dat (.slice ringS) (s.nth 0)), (0, .yld 7), (1, .ptr 5 storeS [] storeS), (2, .ptr 6 u64 [] u64)],
    [(7, .loop .ready), (6, .box u64 (.dat u64 (.I (cl c)))), (5, .box storeS (.dat storeS s)), (8, .grow storedS (wtU s c i.1)), (4, .box (.slice storedS) (.own 8 storedS)), (1, .box cursorS (.dat cursorS c)), (0, .box storeS (.dat storeS s))]), fun i => nG s - i.1,
    ⟨0, Nat.zero_le _⟩, ⟨[(8, 3)], rfl, ⟨rfl, rfl, rfl, rfl, rfl, rfl, trivial⟩, ⟨rfl, rfl, rfl, rfl, rfl, rfl, rfl, trivial⟩⟩, ?_⟩
  intro z
  obtain ⟨i, hi⟩ := z
  refine ⟨fun h1 => ?_, fun h1 => ?_⟩
  · have hlt : i < nG s := ltN h1
    clear h1
    refine ⟨ix hlt, fun h2 => ?_, fun h2 => ⟨gN hlt, by kernel_rfl, ?_, fun h3 => (by cases h3), fun _ => ?_⟩⟩
    all_goals replace h2 : (!seeB s (cl c) i) = _ := h2
    · rw [Bool.not_eq_true'] at h2
      exact ⟨⟨i + 1, hlt⟩, ⟨[], rfl, ⟨slot (i64_1 (n := i) (by omega)), rfl, rfl, rfl, rfl, rfl, trivial⟩, ⟨rfl, rfl, rfl, gro (by rw [wtU, wtF_no h2, List.append_nil]), rfl, rfl, rfl, trivial⟩⟩, stepLt hlt⟩
    all_goals rw [Bool.not_eq_false'] at h2
    · show (wtU s c i).length + (frQ (rgAt s i) (nxA c i)).length ≤ 1073741824
      rw [wtF_yes h2]
      have := wtU_len (c := c) h0 (i := i) (by omega)
      have := wtF_len (c := c) h0 (i := i) (by omega)
      omega
    · refine ⟨⟨i + 1, hlt⟩, ⟨[(8, 35)], rfl, ⟨slot (i64_1 (n := i) (by omega)), rfl, rfl, rfl, rfl, rfl, trivial⟩, ⟨rfl, rfl, rfl, gro ?_, rfl, rfl, rfl, trivial⟩⟩, stepLt hlt⟩
      show wtU s c i ++ frQ (rgAt s i) (nxA c i) = wtU s c (i + 1)
      rw [wtF_yes h2, wtU]
  · have e : i = nG s := geN hi h1
    subst e
    refine ⟨?_, Bears.same ?_, Bears.int hk.symm, trivial⟩
    · have := wtU_len (c := c) h0 (Nat.le_refl (nG s))
      show (wtU s c (nG s)).length ≤ 1000000
      omega
    · show Same (.slice storedS) (.L (srtQ (wtU s c (nG s)))) (.L (wtW s c))
      rw [srtQ_srt (wtU_inr hs h0) (wtU_nodup h0), ← wtR_srt h0, wtW_yes hk]
      exact Same.rfl
def cWtR : Ctx := ⟨tabQ, refsQ, [(77, sListT), (54, sSees)], [], keep, mpsT⟩
def sWtR : Sum := ⟨[storeS, cursorS], fun
  | [s, c] => some (ckE s c = 0)
  | _ => none, fun
  | [s, c] => .dat (.slice storedS) (.L (wtR s c))
  | _ => .und⟩
/-- Whether an event waits in the ring k. -/
def wQk (s c x : D) (k : Nat) : Bool := labG s k == lbS x && seeB s (cl c) k && leB (nxA c k) (noS x)
def wrK (s c : D) (i k : Nat) : List D := ((mrg s).take i).filter (wQ s c) ++ if (List.range k).any (wQk s c ((mrg s).getD i .Z)) = true then [(mrg s).getD i .Z] else []
theorem wrK_0 (s c : D) (i : Nat) : ((mrg s).take i).filter (wQ s c) = wrK s c i 0 := by simp [wrK]
theorem wrK_no {s c : D} {i k : Nat} (h : wQk s c ((mrg s).getD i .Z) k = false) : wrK s c i k = wrK s c i (k + 1) := by
  have e : (List.range (k + 1)).any (wQk s c ((mrg s).getD i .Z)) = (List.range k).any (wQk s c ((mrg s).getD i .Z)) := by
    rw [List.range_succ, List.any_append, List.any_cons, h, List.any_nil, Bool.or_false, Bool.or_false]
  rw [wrK, wrK, e]
theorem wrK_yes {s c : D} {i k : Nat} (h0 : stE s = 0) (hk : k < nG s) (h : wQk s c ((mrg s).getD i .Z) k = true) : wrK s c i k ++ [(mrg s).getD i .Z] = wrK s c i (k + 1) := by
  have h1 : (List.range k).any (wQk s c ((mrg s).getD i .Z)) = false := anyQ_no fun j hj => by
    cases hq : wQk s c ((mrg s).getD i .Z) j with
    | false => rfl
    | true =>
      simp only [wQk, Bool.and_eq_true, beq_iff_eq] at h hq
      have := lab_inj (st_ok h0).2.1 hk (by omega) (hq.1.1.trans h.1.1.symm)
      omega
  have e : (List.range (k + 1)).any (wQk s c ((mrg s).getD i .Z)) = true := by
    rw [List.range_succ, List.any_append, List.any_cons, h, Bool.true_or, Bool.or_true]
  rw [wrK, wrK, e, h1, if_neg (by decide), if_pos rfl, List.append_nil]
theorem wrK_end {s c : D} {i : Nat} (hi : i < (mrg s).length) : wrK s c i (nG s) = ((mrg s).take (i + 1)).filter (wQ s c) := by
  rw [wrK, List.take_add_one, List.filter_append, List.getElem?_eq_getElem hi, List.getD_eq_getElem?_getD, List.getElem?_eq_getElem hi]
  congr 1
  show (if wQ s c (mrg s)[i] = true then [(mrg s)[i]] else []) = ([(mrg s)[i]]).filter (wQ s c)
  cases h : wQ s c (mrg s)[i] <;> simp [h]
theorem mrg_512 {s : D} (h0 : stE s = 0) : (mrg s).length ≤ 512 := by rw [mrg, srt_len]; exact flat_len (st_ok h0).1
theorem waitr_fun : FunOK cWtR 200 Try.f58 sWtR := fun s hs c hc h => by
  have hk : ckE s c = 0 := h
  have ok := ck_ok hk
  have h8 := ok.le8
  have hl := ok.len
  have h0 := ok.st
  have hm := mrg_512 h0
  refine ⟨{ i : Nat // i ≤ (mrg s).length }, 5, fun i => ([(8, .dat i64 (.I i.1)), (7, .own 4 storedS), (5, .dat (.slice storedS) (.L (listT s))), (3, .ptr 1 cursorS [] cursorS), (2, .ptr 0 storeS [] storeS)],
    [(4, .grow storedS (((mrg s).take i.1).filter (wQ s c))), (1, .box cursorS (.dat cursorS c)), (0, .box storeS (.dat storeS s))]), fun i => (mrg s).length - i.1,
    ⟨0, Nat.zero_le _⟩, ⟨[(4, 3)], rfl, ⟨rfl, rfl, rfl, rfl, rfl, trivial⟩, ⟨rfl, rfl, rfl, trivial⟩⟩, ?_⟩
  intro z
  obtain ⟨i, hi⟩ := z
  refine ⟨fun h1 => ?_, fun h1 => ?_⟩
  · replace h1 : ltB (i : Int) ((listT s).length : Int) = true := h1
    rw [← listT_ok h0] at h1
    have hlt : i < (mrg s).length := ltN h1
    clear h1
    refine ⟨{ k : Nat // k ≤ nG s }, 6, fun k => ([(9, .dat i64 (.I k.1)), (8, .dat i64 (.I i)), (7, .own 5 storedS), (5, .dat (.slice storedS) (.L (listT s))), (3, .ptr 1 cursorS [] cursorS), (2, .ptr 0 storeS [] storeS)],
      [(5, .grow storedS (wrK s c i k.1)), (1, .box cursorS (.dat cursorS c)), (0, .box storeS (.dat storeS s))]), fun k => nG s - k.1,
      ⟨0, Nat.zero_le _⟩, ⟨[(5, 4)], rfl, ⟨rfl, rfl, rfl, rfl, rfl, rfl, trivial⟩, ⟨gro (wrK_0 s c i), rfl, rfl, trivial⟩⟩, ?_⟩
    intro z
    obtain ⟨k, hk⟩ := z
    refine ⟨fun h1 => ?_, fun h1 => ?_⟩
    · have hkt : k < nG s := ltN h1
      clear h1
      have a1 : 0 ≤ (i : Int) ∧ (i : Int) < ((listT s).length : Int) := by rw [← listT_ok h0]; omega
      have a2 : 0 ≤ (k : Int) ∧ (k : Int) < ((nx c).length : Int) := by omega
      have a3 : (wrK s c i k).length + 1 ≤ 1073741824 := by
        have h1 := List.length_filter_le (wQ s c) ((mrg s).take i)
        rw [List.length_take] at h1
        rw [wrK, List.length_append]
        split
        · simp only [List.length_singleton]; omega
        · simp only [List.length_nil]; omega
      refine ⟨ix hkt, a1, fun _ => ⟨(ix hkt).1, (ix hkt).2⟩, fun _ => ⟨a1.1, a1.2⟩, fun _ => ⟨a2.1, a2.2⟩, by kernel_rfl, fun h2 => ⟨a1, a3, ?_⟩, fun h2 => ?_⟩
      all_goals replace h2 : wQk s c ((listT s).getD i .Z) k = _ := h2
      all_goals rw [← listT_ok h0] at h2
      · refine ⟨⟨k + 1, hkt⟩, ⟨[(5, 81)], rfl, ⟨slot (i64_1 (n := k) (by omega)), rfl, rfl, rfl, rfl, rfl, trivial⟩, ⟨gro ?_, rfl, rfl, trivial⟩⟩, stepLt hkt⟩
        show wrK s c i k ++ [(listT s).getD i .Z] = wrK s c i (k + 1)
        rw [← listT_ok h0]
        exact wrK_yes h0 hkt h2
      · exact ⟨⟨k + 1, hkt⟩, ⟨[], rfl, ⟨slot (i64_1 (n := k) (by omega)), rfl, rfl, rfl, rfl, rfl, trivial⟩, ⟨gro (wrK_no h2), rfl, rfl, trivial⟩⟩, stepLt hkt⟩
    · have e : k = nG s := geN hk h1
      subst e
      exact ⟨⟨i + 1, hlt⟩, ⟨[(4, 5)], rfl, ⟨slot (i64_1 (n := i) (by omega)), rfl, rfl, rfl, rfl, trivial⟩, ⟨gro (wrK_end hlt), rfl, rfl, trivial⟩⟩, stepLt hlt⟩
  · replace h1 : ltB (i : Int) ((listT s).length : Int) = false := h1
    rw [← listT_ok h0] at h1
    have e : i = (mrg s).length := geN hi h1
    subst e
    refine Bears.same ?_
    rw [List.take_length]
    exact Same.rfl
end Go.Proofs.Ytmdhmjidmiemmaa
