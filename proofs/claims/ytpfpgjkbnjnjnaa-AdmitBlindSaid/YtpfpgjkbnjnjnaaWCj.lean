/- Accounts of quotas. Accounts of quotas, part 2. Accounts of quotas, part 3: what the laws use; the laws. Accounts of quotas: what is right of them; the laws. -/
import Derived.Test.YtpfpgjkbnjnjnaaWCe
namespace Go.Proofs.Ytpfpgjkbnjnjnaa.Cf
open Go Go.Vm
set_option linter.unusedSimpArgs false
set_option maxRecDepth 10000
def rl (r : D) : List D := (r.nth 0).list
def nU (r : D) : Nat := (rl r).length
def usedAt (r : D) (i : Nat) : Int := ((rl r).getD i .Z).int
def rtBad (c r : D) (i : Nat) : Bool := ltB (usedAt r i) 0 || ltB (rateAt c i) (usedAt r i)
/-- The error of quotas. -/
def qk (c r : D) : Int := if chE c ≠ 0 then chE c else if nU r ≠ nC c then 3 else if (List.range (nU r)).any (rtBad c r) = true then 2 else 0
def sQk : Sum := ⟨[configS, ratesS], fun _ => none, fun
  | [c, r] => .dat i64 (.I (qk c r))
  | _ => .und⟩
theorem qCheck_fun : FunOK cK2 60 Try.f43 sQk := fun c hc r hr _ => by
  simp only [InR, InRs] at hc hr
  have hu : nU r ≤ 9223372036854775807 := hr.1.1
  clear hc hr
  refine ⟨fun h1 => Bears.int ?_, fun h1 => ⟨fun h2 => Bears.int ?_, fun h2 => ?_⟩⟩
  all_goals replace h1 : (chE c != 0) = _ := h1
  all_goals simp only [bne_iff_ne, ne_eq, bne_eq_false_iff_eq] at h1
  · show chE c = qk c r
    rw [qk, if_pos h1]
  all_goals replace h2 : ((nU r : Int) != (nC c : Int)) = _ := h2
  all_goals simp only [bne_iff_ne, ne_eq, bne_eq_false_iff_eq, Int.natCast_inj] at h2
  · show 3 = qk c r
    rw [qk, if_neg (by simp [h1]), if_pos h2]
  refine ⟨{ i : Nat // i ≤ nU r ∧ ∀ k, k < i → rtBad c r k = false }, 2, fun i => ([(27, .dat i64 (.I i.1)), (26, .dat i64 (.I (nU r))), (25, .dat (.slice i64) (r.nth 0)), (2, .ptr 0 configS [] configS)], [(0, .box configS (.dat configS c))]), fun i => nU r - i.1,
    ⟨0, by omega, fun k h => by omega⟩, ⟨[], rfl, ⟨rfl, rfl, rfl, rfl, trivial⟩, ⟨rfl, trivial⟩⟩, ?_⟩
  intro x
  obtain ⟨i, hi, h0⟩ := x
  have hlt : ltB (i : Int) (nU r : Int) = true → i < nU r := ltN
  have hge : ltB (i : Int) (nU r : Int) = false → i = nU r := geN hi
  refine ⟨fun h3 => ⟨?_, fun _ => ⟨?_, ?_⟩, fun h4 => Bears.int ?_, fun h4 => ?_⟩, fun h3 => Bears.int ?_⟩
  · have := hlt h3; show 0 ≤ (i : Int) ∧ (i : Int) < (nU r : Int); omega
  · show 0 ≤ (i : Int); omega
  · have := hlt h3; show (i : Int) < (nC c : Int); omega
  · replace h4 : rtBad c r i = true := h4
    have hk := hlt h3
    show 2 = qk c r
    rw [qk, if_neg (by simp [h1]), if_neg (by simp [h2]), if_pos]
    exact List.any_eq_true.2 ⟨i, by simpa using hk, h4⟩
  · replace h4 : rtBad c r i = false := h4
    have hk := hlt h3
    exact ⟨⟨i + 1, by omega, upto h0 h4⟩, ⟨[], rfl, ⟨slot (i64_1 (n := i) (by omega)), rfl, rfl, rfl, trivial⟩, ⟨rfl, trivial⟩⟩, by show _ - (i + 1) < _ - i; omega⟩
  · have e := hge h3
    show 0 = qk c r
    rw [qk, if_neg (by simp [h1]), if_neg (by simp [h2]), if_neg]
    simp only [List.any_eq_true, List.mem_range, not_exists, not_and, Bool.not_eq_true]
    exact fun k hk => h0 k (by omega)
def cQ1 : Ctx := ⟨tab, refs, [(41, sCheckC)], [], keep, mps⟩
def qX (c : D) (L : Int) : Int := if chE c ≠ 0 then chE c else if fl c L < nC c then 0 else 14
def sQClass : Sum := ⟨[configS, u64], fun _ => none, fun
  | [c, l] => .tup [.dat i64 (.I (clN c l.int)), .dat i64 (.I (qX c l.int))]
  | _ => .und⟩
theorem qClass_fun : FunOK cK2 60 Try.f91 sQClass := fun c hc l hl _ => by
  simp only [InR, InRs] at hc
  have hn0 : nC c ≤ 9223372036854775807 := hc.1.1
  clear hc
  refine ⟨fun h1 => ⟨Bears.int ?_, Bears.int ?_, trivial⟩, fun h1 => ?_⟩
  all_goals replace h1 : (chE c != 0) = _ := h1
  all_goals simp only [bne_iff_ne, ne_eq, bne_eq_false_iff_eq] at h1
  · show 0 = clN c l.int
    rw [clN, if_pos h1]
  · show chE c = qX c l.int
    rw [qX, if_pos h1]
  refine ⟨{ x : Nat × List (D × D) // x.1 ≤ nC c ∧ (∀ L, mHas L x.2 = (List.range x.1).any fun k => labAt c k == L) ∧ ∀ k, k < x.1 → (mGet (.I 0) (labAt c k) x.2).int = k }, 3, fun x => ([(25, .dat i64 (.I x.1.1)), (24, .dat i64 (.I (nC c))), (23, .dat (.slice classS) (c.nth 0)), (8, .mp 2 u64 i64), (1, .dat u64 (.I l.int))], [(2, .map u64 i64 x.1.2)]), fun x => nC c - x.1.1,
    ⟨(0, []), by omega, fun L => rfl, fun k h => by omega⟩, ⟨[(2, 1)], rfl, ⟨rfl, rfl, rfl, rfl, rfl, trivial⟩, ⟨rfl, trivial⟩⟩, ?_⟩
  intro x
  obtain ⟨⟨i, es⟩, hi, hm, h0⟩ := x
  simp only at hi hm h0
  have hlt : ltB (i : Int) (nC c : Int) = true → i < nC c := ltN
  have hge : ltB (i : Int) (nC c : Int) = false → i = nC c := geN hi
  refine ⟨fun h2 => ⟨?_, ?_⟩, fun h2 => ⟨fun h3 => ⟨Bears.int ?_, Bears.int ?_, trivial⟩, fun h3 => ⟨Bears.int ?_, Bears.int ?_, trivial⟩⟩⟩
  · have := hlt h2; show 0 ≤ (i : Int) ∧ (i : Int) < (nC c : Int); omega
  · have hk := hlt h2
    refine ⟨⟨(i + 1, mPut (.I (labAt c i)) (.I i) es), by show i + 1 ≤ _; omega, fun L => ?_, fun k hk2 => ?_⟩, ⟨[], rfl, ⟨slot (i64_1 (n := i) (by omega)), rfl, rfl, rfl, rfl, trivial⟩, ⟨rfl, trivial⟩⟩, by show _ - (i + 1) < _ - i; omega⟩
    · show mHas L (mPut (.I (labAt c i)) (.I i) es) = (List.range (i + 1)).any fun k => labAt c k == L
      rw [mHas_mPut, List.range_succ, List.any_append, ← hm]
      by_cases e : labAt c i = L <;> simp [e]
    · show (mGet (.I 0) (labAt c k) (mPut (.I (labAt c i)) (.I i) es)).int = k
      rw [mGet_mPut]
      rcases Nat.lt_or_eq_of_le (Nat.le_of_lt_succ hk2) with h | rfl
      · rw [if_neg (show ¬ (D.I (labAt c i)).int = labAt c k from fun e => lab_inj h1 k i h hk e.symm)]; exact h0 k h
      · rw [if_pos (show (D.I (labAt c k)).int = labAt c k from rfl)]; rfl
  all_goals have e := hge h2
  all_goals subst e
  all_goals replace h3 : (!mHas l.int es) = _ := h3
  all_goals rw [hm] at h3
  · rw [clN, if_neg (by simp [h1])]
    have : fl c l.int = nC c := fl_none fun k hk e => by
      simp only [Bool.not_eq_true', List.any_eq_false, List.mem_range] at h3
      exact h3 k hk (by simp [e])
    show 0 = if fl c l.int < nC c then (fl c l.int : Int) else 0
    rw [if_neg (by omega)]
  · have : fl c l.int = nC c := fl_none fun k hk e => by
      simp only [Bool.not_eq_true', List.any_eq_false, List.mem_range] at h3
      exact h3 k hk (by simp [e])
    show 14 = qX c l.int
    rw [qX, if_neg (by simp [h1]), if_neg (by omega)]
  all_goals simp only [Bool.not_eq_false', List.any_eq_true, List.mem_range, beq_iff_eq] at h3
  all_goals obtain ⟨k, hk, e⟩ := h3
  all_goals have ef : fl c l.int = k := fl_at hk e fun j hj ej => lab_inj h1 j k hj hk (by omega)
  · show (mGet (.I 0) l.int es).int = clN c l.int
    rw [clN, if_neg (by simp [h1]), ef, if_pos hk, ← h0 k hk, e]
  · show 0 = qX c l.int
    rw [qX, if_neg (by simp [h1]), ef, if_pos hk]
def clI (c : D) (L : Int) : Int := if fl c L < nC c then fl c L else -1
def sClI : Sum := ⟨[configS, u64], fun _ => none, fun
  | [c, l] => .dat i64 (.I (clI c l.int))
  | _ => .und⟩
def cQ2 : Ctx := ⟨tab, refs, [], [], keep, mps⟩
def newU (c : D) : D := .L [.L (if chE c ≠ 0 then [] else List.replicate (nC c) (.I 0))]
def sQNew : Sum := ⟨[configS], fun _ => none, fun
  | [c] => .tup [.dat ratesS (newU c), .dat i64 (.I (chE c))]
  | _ => .und⟩
theorem qNew_fun : FunOK cQ1 60 Try.f36 sQNew := fun c hc _ => by
  refine ⟨fun h1 => ⟨Bears.same (eqSame ?_), Bears.int ?_, trivial⟩, fun h1 => ⟨?_, Bears.same (eqSame ?_), Bears.int ?_, trivial⟩⟩
  all_goals replace h1 : (chE c != 0) = _ := h1
  all_goals simp only [bne_iff_ne, ne_eq, bne_eq_false_iff_eq] at h1
  · show D.L [D.L []] = newU c
    rw [newU, if_pos h1]
  · rfl
  · have := nC_le h1
    show 0 ≤ (nC c : Int) ∧ (nC c : Int) ≤ (nC c : Int) ∧ (nC c : Int) ≤ 1073741824
    omega
  · show D.L [D.L (List.replicate (nC c) (.I 0))] = newU c
    rw [newU, if_neg (by simp [h1])]
  · exact h1.symm
def bothX (c r : D) (L : Int) : Int := if qk c r ≠ 0 then qk c r else qX c L
def bothN (c r : D) (L : Int) : Int := if qk c r ≠ 0 then 0 else clN c L
def sBoth : Sum := ⟨[configS, ratesS, u64], fun _ => none, fun
  | [c, r, l] => .tup [.dat i64 (.I (bothN c r l.int)), .dat i64 (.I (bothX c r l.int))]
  | _ => .und⟩
def cQ3 : Ctx := ⟨tab, refs, [(43, sQk), (91, sQClass)], [], keep, mps⟩
theorem both_fun : FunOK cQ3 60 Try.f69 sBoth := fun c hc r hr l hl _ => by
  refine ⟨fun h1 => ⟨Bears.int ?_, Bears.int ?_, trivial⟩, fun h1 => ⟨Bears.int ?_, Bears.int ?_, trivial⟩⟩
  all_goals replace h1 : (qk c r != 0) = _ := h1
  all_goals simp only [bne_iff_ne, ne_eq, bne_eq_false_iff_eq] at h1
  · show 0 = bothN c r l.int
    rw [bothN, if_pos h1]
  · show qk c r = bothX c r l.int
    rw [bothX, if_pos h1]
  · show clN c l.int = bothN c r l.int
    rw [bothN, if_neg (by simp [h1])]
  · show qX c l.int = bothX c r l.int
    rw [bothX, if_neg (by simp [h1])]
def leftN (c r : D) (L : Int) : Int := if bothX c r L ≠ 0 then 0 else rateAt c (fl c L) - usedAt r (fl c L)
def sLeft : Sum := ⟨[configS, ratesS, u64], fun _ => none, fun
  | [c, r, l] => .tup [.dat i64 (.I (leftN c r l.int)), .dat i64 (.I (bothX c r l.int))]
  | _ => .und⟩
theorem qk_0 {c r : D} (h : qk c r = 0) : chE c = 0 := by
  by_cases h1 : chE c = 0
  · exact h1
  · rw [qk, if_pos h1] at h; exact h
theorem qk_ok {c r : D} (h : qk c r = 0) : nU r = nC c ∧ ∀ k, k < nU r → rtBad c r k = false := by
  rw [qk, if_neg (by simp [qk_0 h])] at h
  split at h
  · cases h
  · rename_i h2
    split at h
    · cases h
    · rename_i h3
      refine ⟨by simpa using h2, fun k hk => ?_⟩
      simp only [List.any_eq_true, List.mem_range, not_exists, not_and, Bool.not_eq_true] at h3
      exact h3 k hk
theorem bothX_0 {c r : D} {L : Int} (h : bothX c r L = 0) : qk c r = 0 ∧ fl c L < nC c ∧ fl c L < nU r ∧ (0 ≤ usedAt r (fl c L) ∧ usedAt r (fl c L) ≤ rateAt c (fl c L) ∧ 0 ≤ rateAt c (fl c L) ∧ rateAt c (fl c L) ≤ 64) := by
  have hq : qk c r = 0 := by
    by_cases h1 : qk c r = 0
    · exact h1
    · rw [bothX, if_pos h1] at h; exact h
  rw [bothX, if_neg (by simp [hq]), qX, if_neg (by simp [qk_0 hq])] at h
  have hf : fl c L < nC c := by
    by_cases h1 : fl c L < nC c
    · exact h1
    · rw [if_neg h1] at h; cases h
  obtain ⟨h1, h2⟩ := qk_ok hq
  have h3 := h2 (fl c L) (by omega)
  have h4 := (ch_ok.1 (qk_0 hq)).2.1 _ hf
  have h5 : clBad (clsAt c (fl c L)) = false := by
    by_cases hb : clBad (clsAt c (fl c L)) = true
    · rw [clE_2 hb] at h4; cases h4
    · simpa using hb
  simp only [rtBad, Bool.or_eq_false_iff, ltB_false] at h3
  simp only [clBad, out, Bool.or_eq_false_iff, ltB_false] at h5
  have h6 : rateAt c (fl c L) = ((clsAt c (fl c L)).nth 2).int := rfl
  exact ⟨hq, hf, by omega, by omega⟩
theorem bothX_14 {c r : D} {L : Int} (h : (qk c r == 0 && ltB (clI c L) 0) = true) : bothX c r L = 14 := by
  simp only [ltB, Bool.and_eq_true, beq_iff_eq, decide_eq_true_eq] at h
  rw [bothX, if_neg (by simp [h.1]), qX, if_neg (by simp [qk_0 h.1]), if_neg]
  intro hf
  have := h.2
  rw [clI, if_pos hf] at this; omega
theorem bothX_ok {c r : D} {L : Int} (hq : qk c r = 0) (h : (qk c r == 0 && ltB (clI c L) 0) = false) : bothX c r L = 0 := by
  rw [bothX, if_neg (by simp [hq]), qX, if_neg (by simp [qk_0 hq]), if_pos]
  by_cases hf : fl c L < nC c
  · exact hf
  · simp [hq, clI, hf, ltB] at h
def cQ4 : Ctx := ⟨tab, refs, [(69, sBoth)], [], keep, mps⟩
def sMay : Sum := ⟨[configS, ratesS, u64], fun _ => none, fun
  | [c, r, l] => .tup [.dat .bool (.B (ltB 0 (leftN c r l.int))), .dat i64 (.I (bothX c r l.int))]
  | _ => .und⟩
def cQ5 : Ctx := ⟨tab, refs, [(70, ⟨[.slice i64], fun _ => none, fun | [a] => .dat (.slice i64) a | _ => .und⟩), (69, sBoth)], [], keep, mps⟩
end Go.Proofs.Ytpfpgjkbnjnjnaa.Cf

namespace Go.Proofs.Ytpfpgjkbnjnjnaa.Cf
open Go Go.Vm
set_option linter.unusedSimpArgs false
set_option maxRecDepth 10000
def sumU (r : D) : Nat → Int
  | 0 => 0
  | n + 1 => IntKind.wrap .i64 (sumU r n + usedAt r n)
def sSum : Sum := ⟨[.slice i64], fun _ => none, fun
  | [a] => .dat i64 (.I (sumU (.L [a]) a.list.length))
  | _ => .und⟩
def totN (c r : D) : Int := if qk c r ≠ 0 then 0 else sumU r (nU r)
def sTot : Sum := ⟨[configS, ratesS], fun _ => none, fun
  | [c, r] => .tup [.dat i64 (.I (totN c r)), .dat i64 (.I (qk c r))]
  | _ => .und⟩
def cQ6 : Ctx := ⟨tab, refs, [(43, sQk)], [], keep, mps⟩
theorem sumU_nth (r : D) : ∀ n, sumU (.L [r.nth 0]) n = sumU r n
  | 0 => rfl
  | n + 1 => by rw [sumU, sumU, sumU_nth r n]; rfl
/-- What the classes that can be seen have used. -/
def seenU (c r : D) (L : Int) : Nat → List D
  | 0 => []
  | n + 1 => seenU c r L n ++ if seeB c L n = true then [.I (usedAt r n)] else []
theorem seenU_len (c r : D) (L : Int) : ∀ n, (seenU c r L n).length ≤ n
  | 0 => Nat.le_refl 0
  | n + 1 => by
    have := seenU_len c r L n
    rw [seenU]
    split <;> simp <;> omega
def sSeen : Sum := ⟨[configS, ratesS, u64], fun _ => none, fun
  | [c, r, l] => .tup [.dat (.slice i64) (.L (if qk c r ≠ 0 then [] else seenU c r l.int (nU r))), .dat i64 (.I (qk c r))]
  | _ => .und⟩
def cQ7 : Ctx := ⟨tab, refs, [(43, sQk)], [], keep, mps⟩
theorem seen_fun : FunOK cQ7 60 Try.f38 sSeen := fun c hc r hr l hl _ => by
  simp only [InR, InRs] at hr
  have hu : nU r ≤ 9223372036854775807 := hr.1.1
  clear hr
  refine ⟨fun h1 => ⟨Bears.same (eqSame ?_), Bears.int rfl, trivial⟩, fun h1 => ?_⟩
  all_goals replace h1 : (qk c r != 0) = _ := h1
  all_goals simp only [bne_iff_ne, ne_eq, bne_eq_false_iff_eq] at h1
  · show D.L [] = D.L (if qk c r ≠ 0 then [] else seenU c r l.int (nU r))
    rw [if_pos h1]
  have h8 : nU r ≤ 8 := by have := (qk_ok h1).1; have := nC_le (qk_0 h1); omega
  have hU := (qk_ok h1).1
  refine ⟨{ i : Nat // i ≤ nU r }, 5, fun i => ([(21, .dat i64 (.I i.1)), (20, .dat i64 (.I (nU r))), (19, .dat (.slice i64) (r.nth 0)), (9, .own 4 i64), (3, .ptr 0 configS [] configS), (2, .dat u64 (.I l.int))], [(4, .grow i64 (seenU c r l.int i.1)), (0, .box configS (.dat configS c))]), fun i => nU r - i.1,
    ⟨0, by omega⟩, ⟨[(4, 3)], rfl, ⟨rfl, rfl, rfl, rfl, rfl, rfl, trivial⟩, ⟨rfl, rfl, trivial⟩⟩, ?_⟩
  intro x
  obtain ⟨i, hi⟩ := x
  have hlt : ltB (i : Int) (nU r : Int) = true → i < nU r := ltN
  have hge : ltB (i : Int) (nU r : Int) = false → i = nU r := geN hi
  refine ⟨fun h2 => ⟨?_, ?_, fun h3 => ⟨?_, ?_⟩, fun h3 => ?_⟩, fun h2 => ⟨Bears.same (eqSame ?_), Bears.int ?_, trivial⟩⟩
  · have := hlt h2; show 0 ≤ (i : Int) ∧ (i : Int) < (nU r : Int); omega
  · have := hlt h2; show 0 ≤ (i : Int) ∧ (i : Int) < (nC c : Int); omega
  · have := hlt h2; have := seenU_len c r l.int i; show (seenU c r l.int i).length + 1 ≤ 1073741824; omega
  · replace h3 : seeB c l.int i = true := h3
    have := hlt h2
    refine ⟨⟨i + 1, by omega⟩, ⟨[(4, 6)], rfl, ⟨slot (i64_1 (n := i) (by omega)), rfl, rfl, rfl, rfl, rfl, trivial⟩, ⟨gro ?_, rfl, trivial⟩⟩, by show _ - (i + 1) < _ - i; omega⟩
    show seenU c r l.int i ++ [D.I (usedAt r i)] = seenU c r l.int (i + 1)
    rw [seenU, if_pos h3]
  · replace h3 : seeB c l.int i = false := h3
    have := hlt h2
    refine ⟨⟨i + 1, by omega⟩, ⟨[], rfl, ⟨slot (i64_1 (n := i) (by omega)), rfl, rfl, rfl, rfl, rfl, trivial⟩, ⟨gro ?_, rfl, trivial⟩⟩, by show _ - (i + 1) < _ - i; omega⟩
    show seenU c r l.int i = seenU c r l.int (i + 1)
    rw [seenU, if_neg (by simp [h3]), List.append_nil]
  · have e := hge h2
    show D.L (seenU c r l.int i) = D.L (if qk c r ≠ 0 then [] else seenU c r l.int (nU r))
    rw [if_neg (by simp [h1]), e]
  · exact h1.symm
def bitB (a i : Int) : Bool := bitsOp .and .u64 (shr .u64 a (IntKind.wrap .u64 i)) 1 == 1
def sIn : Sum := ⟨[u64, i64], fun
  | [_, i] => some (0 ≤ i.int ∧ i.int < 64)
  | _ => none, fun
  | [a, i] => .dat .bool (.B (bitB a.int i.int))
  | _ => .und⟩
def tab2 : List (Nat × Sh) := (203, u64) :: tab
def cU : Ctx := ⟨tab2, refs, [], [], keep, mps⟩
theorem bv_nat {a : Int} (h0 : 0 ≤ a) : BitVec.ofInt 64 a = BitVec.ofNat 64 a.toNat := by
  conv => lhs; rw [← Int.toNat_of_nonneg h0]
  exact BitVec.ofInt_natCast _ _
theorem bitB_test {a : Int} {i : Nat} (h0 : 0 ≤ a) (h1 : a ≤ 18446744073709551615) (hi : i < 64) : bitB a i = a.toNat.testBit i := by
  obtain ⟨n, rfl⟩ := Int.eq_ofNat_of_zero_le h0
  have e1 : IntKind.wrap .u64 (i : Int) = i := wrap_u64 (by omega) (by omega)
  have e2 : shr .u64 (n : Int) (i : Int) = ((n / 2 ^ i : Nat) : Int) := by
    rw [shr, Int.toNat_natCast, show min i IntKind.u64.bits = i from Nat.min_eq_left (by show i ≤ 64; omega), Int.fdiv_eq_ediv_of_nonneg _ (Int.le_of_lt (Int.pow_pos (by omega)))]
    norm_cast
  have hlt : n / 2 ^ i < 2 ^ 64 := Nat.lt_of_le_of_lt (Nat.div_le_self _ _) (by omega)
  have e3 : (BitVec.ofInt 64 ((n / 2 ^ i : Nat) : Int) &&& BitVec.ofInt 64 1).toNat = n / 2 ^ i % 2 := by
    rw [bv_nat (Int.natCast_nonneg _), bv_nat (by omega), BitVec.toNat_and, BitVec.toNat_ofNat, BitVec.toNat_ofNat, Int.toNat_natCast, Nat.mod_eq_of_lt hlt]
    exact Nat.and_one_is_mod _
  show (bitsOp .and .u64 (shr .u64 (n : Int) (IntKind.wrap .u64 (i : Int))) 1 == 1) = _
  rw [e1, e2]
  show (IntKind.wrap .u64 ((BitVec.ofInt 64 ((n / 2 ^ i : Nat) : Int) &&& BitVec.ofInt 64 1).toNat : Int) == 1) = _
  rw [e3, wrap_u64 (by omega) (by omega), Int.toNat_natCast, Nat.testBit_eq_decide_div_mod_eq]
  by_cases h : n / 2 ^ i % 2 = 1
  · simp [h]
  · have : n / 2 ^ i % 2 = 0 := by omega
    simp [this]
theorem belowB_all {a b : Int} (ha : IntKind.u64.min ≤ a ∧ a ≤ IntKind.u64.max) (hb : IntKind.u64.min ≤ b ∧ b ≤ IntKind.u64.max) : belowB a b = (List.range 64).all fun (i : Nat) => !(bitB a i && !bitB b i) := by
  have a0 : 0 ≤ a := ha.1
  have a1 : a ≤ 18446744073709551615 := ha.2
  have b0 : 0 ≤ b := hb.1
  have b1 : b ≤ 18446744073709551615 := hb.2
  have e : belowB a b = decide (BitVec.ofNat 64 a.toNat &&& ~~~BitVec.ofNat 64 b.toNat = 0#64) := by
    show (IntKind.wrap .u64 ((BitVec.ofInt 64 a &&& ~~~BitVec.ofInt 64 b).toNat : Int) == 0) = _
    rw [bv_nat a0, bv_nat b0]
    generalize hv : (BitVec.ofNat 64 a.toNat &&& ~~~BitVec.ofNat 64 b.toNat) = v
    have := v.isLt
    rw [wrap_u64 (by omega) (by omega)]
    rw [Bool.eq_iff_iff]
    simp only [beq_iff_eq, decide_eq_true_eq, ← BitVec.toNat_inj]
    simp
  rw [e, Bool.eq_iff_iff, decide_eq_true_eq, List.all_eq_true]
  have hbit : ∀ i, i < 64 → ((BitVec.ofNat 64 a.toNat &&& ~~~BitVec.ofNat 64 b.toNat).getLsbD i = (bitB a i && !bitB b i)) := by
    intro i hi
    rw [bitB_test a0 a1 hi, bitB_test b0 b1 hi, BitVec.getLsbD_and, BitVec.getLsbD_not, BitVec.getLsbD_ofNat, BitVec.getLsbD_ofNat]
    simp [hi]
  constructor
  · intro h i hi
    have hi : i < 64 := by simpa using hi
    rw [← hbit i hi, h]; simp
  · intro h
    apply BitVec.eq_of_getLsbD_eq
    intro i hi
    rw [hbit i hi]
    have := h i (by simpa using hi)
    simp only [Bool.not_eq_true'] at this
    rw [this]; simp
def cQ8 : Ctx := ⟨tab, refs, [], [], keep, mps⟩
def cloneS : Sum := ⟨[.slice i64], fun
  | [a] => some (a.list.length ≤ 1073741824)
  | _ => none, fun | [a] => .dat (.slice i64) a | _ => .und⟩
def useX (c r : D) (L : Int) : Int := if bothX c r L ≠ 0 then bothX c r L else if leftN c r L = 0 then 15 else 0
def useU (c r : D) (L : Int) : D := if useX c r L ≠ 0 then D0 ratesS else .L [.L ((rl r).set (fl c L) (.I (usedAt r (fl c L) + 1)))]
def sUse : Sum := ⟨[configS, ratesS, u64], fun _ => none, fun
  | [c, r, l] => .tup [.dat ratesS (useU c r l.int), .dat i64 (.I (useX c r l.int))]
  | _ => .und⟩
noncomputable def cQ9 : Ctx := ⟨tab, refs, [(69, sBoth)], [(70, Try.f70)], keep, mps⟩
theorem use_fun : FunOK cQ9 60 Try.f49 sUse := fun c hc r hr l hl _ => by
  refine ⟨fun h1 => ⟨Bears.same (eqSame ?_), Bears.int ?_, trivial⟩, fun h1 => ⟨?_, ?_, by kernel_rfl, fun h2 => ⟨Bears.same (eqSame ?_), Bears.int ?_, trivial⟩, fun h2 b h3 => ⟨fun h4 => ?_, fun h4 => ⟨?_, ?_, ?_, Bears.same (eqSame ?_), Bears.int ?_, trivial⟩⟩⟩⟩
  all_goals replace h1 : (bothX c r l.int != 0) = _ := h1
  all_goals simp only [bne_iff_ne, ne_eq, bne_eq_false_iff_eq] at h1
  · show D.L [D.L []] = useU c r l.int
    rw [useU, if_pos (by rw [useX, if_pos h1]; exact h1)]; rfl
  · show bothX c r l.int = useX c r l.int
    rw [useX, if_pos h1]
  all_goals obtain ⟨hq, hf, hU, hw⟩ := bothX_0 h1
  all_goals have hN : bothN c r l.int = (fl c l.int : Nat) := by rw [bothN, if_neg (by simp [hq]), clN, if_neg (by simp [qk_0 hq]), if_pos hf]
  · show 0 ≤ bothN c r l.int ∧ bothN c r l.int < (nU r : Int)
    rw [hN]; omega
  · show 0 ≤ bothN c r l.int ∧ bothN c r l.int < (nC c : Int)
    rw [hN]; omega
  all_goals replace h2 : (usedAt r (bothN c r l.int).toNat == rateAt c (bothN c r l.int).toNat) = _ := h2
  all_goals rw [hN, Int.toNat_natCast] at h2
  all_goals simp only [beq_iff_eq, beq_eq_false_iff_ne] at h2
  all_goals have hL : leftN c r l.int = rateAt c (fl c l.int) - usedAt r (fl c l.int) := by rw [leftN, if_neg (by simp [h1])]
  · show D.L [D.L []] = useU c r l.int
    rw [useU, if_pos (by rw [useX, if_neg (by simp [h1]), if_pos (by omega)]; decide)]; rfl
  · show 15 = useX c r l.int
    rw [useX, if_neg (by simp [h1]), if_pos (by omega)]
  · have e : rl r = [] := h3 h4
    simp only [nU, e, List.length_nil] at hU
    omega
  · have := nC_le (qk_0 hq); have := (qk_ok hq).1
    show 0 + nU r ≤ 1073741824
    omega
  · show 0 ≤ bothN c r l.int ∧ bothN c r l.int < (nU r : Int)
    rw [hN]; omega
  · show 0 ≤ bothN c r l.int ∧ bothN c r l.int < (nU r : Int)
    rw [hN]; omega
  · show D.L [D.L ((rl r).set (bothN c r l.int).toNat (D.I (IntKind.wrap .i64 (usedAt r (bothN c r l.int).toNat + 1))))] = useU c r l.int
    rw [useU, if_neg (by rw [useX, if_neg (by simp [h1]), if_neg (by omega)]; simp), hN, Int.toNat_natCast, wrap_i64 (by omega) (by omega)]
  · show 0 = useX c r l.int
    rw [useX, if_neg (by simp [h1]), if_neg (by omega)]
end Go.Proofs.Ytpfpgjkbnjnjnaa.Cf

namespace Go.Proofs.Ytpfpgjkbnjnjnaa.Cf
open Go Go.Vm
set_option linter.unusedSimpArgs false
set_option maxRecDepth 10000
def sLight25 : Sum := ⟨[configS, ratesS], fun _ => none, fun
  | [c, r] => .dat .bool (.B (leB (nC c) 12 && leB (nR c) 12 && leB (nU r) 20))
  | _ => .und⟩
def cL : Ctx := ⟨tab, refs, [(17, sSameI)], [], keep, mps⟩
def sOwnC : Sum := ⟨[configS], fun
  | [c] => some (nC c ≤ 1000 ∧ nR c ≤ 1000)
  | _ => none, fun
  | [c] => .dat configS c
  | _ => .und⟩
def sOwnR : Sum := ⟨[ratesS], fun
  | [r] => some (nU r ≤ 1000)
  | _ => none, fun
  | [r] => .dat ratesS r
  | _ => .und⟩
def sSame25 : Sum := ⟨[ratesS, ratesS], fun _ => none, fun
  | [a, b] => .dat .bool (.B (sameI (rl a) (rl b)))
  | _ => .und⟩
def sizes : Nat → D
  | 0 => D0 (.arr 6 tenS)
  | n + 1 => D.puts (.arr 6 tenS) (sizes n) [.idx n, .fld 0] (.I 1)
def shownQ : D := .L [.L [.L [.I 0, .I 1, .I 1], .L [.I 2, .I 1, .I 2]], sizes 6, .L [], .I 1]
def sShownQ : Sum := ⟨[], fun _ => none, fun _ => .dat configS shownQ⟩
def sRates : Sum := ⟨[.slice i64], fun _ => none, fun
  | [a] => .dat ratesS (.L [a])
  | _ => .und⟩
def sUsed : Sum := ⟨[ratesS, u64], fun _ => none, fun
  | [r, l] => .dat (.slice i64) (.L (rl (useU shownQ r l.int)))
  | _ => .und⟩
def cUs : Ctx := ⟨tab, refs, [(49, sUse)], [], keep, mps⟩
def cAwQ : Ctx := ⟨tab, refs, [(49, sUse), (36, sQNew), (91, sQClass), (17, sSameI)], [], keep, mps⟩
def cQUses : Ctx := ⟨tab, refs, [(36, sQNew), (49, sUse), (91, sQClass), (43, sQk)], [], keep, mps⟩
def sLawU : Sum := ⟨[configS, ratesS, u64], fun _ => none, fun _ => .dat .bool (.B true)⟩
end Go.Proofs.Ytpfpgjkbnjnjnaa.Cf

namespace Go.Proofs.Ytpfpgjkbnjnjnaa.Cf
open Go Go.Vm
set_option linter.unusedSimpArgs false
set_option maxRecDepth 10000
theorem qCheck_ok : SumOK Try.prog 43 sQk := sumOK_of_vc (c := cK2) k2OK mixed Try.func43 rfl (by decide) @qCheck_fun
theorem qClass_ok : SumOK Try.prog 91 sQClass := sumOK_of_vc (c := cK2) k2OK mixed Try.func91 rfl (by decide) @qClass_fun
theorem qNew_ok : SumOK Try.prog 36 sQNew := sumOK_of_vc (c := cQ1) (ctxOK (.cons check_ok .nil)) mixed Try.func36 rfl (by decide) @qNew_fun
theorem both_ok : SumOK Try.prog 69 sBoth := sumOK_of_vc (c := cQ3) (ctxOK (.cons qCheck_ok (.cons qClass_ok .nil))) mixed Try.func69 rfl (by decide) @both_fun
def cM : Ctx := ⟨tab, refs, [], [], keep, mps⟩
theorem tab2OK : tabB Try.prog tab2 = true := by kernel_rfl
theorem uOK : CtxOK Try.prog cU := CtxOK.of tab2OK refsOK .nil FunsOK.nil mpsOK
theorem seen_ok : SumOK Try.prog 38 sSeen := sumOK_of_vc (c := cQ7) (ctxOK (.cons qCheck_ok .nil)) mixed Try.func38 rfl (by decide) @seen_fun
theorem q9OK : CtxOK Try.prog cQ9 := CtxOK.of tabOK refsOK (.cons both_ok .nil) (.cons Try.func70 rfl (by decide) .nil) mpsOK
theorem use_ok : SumOK Try.prog 49 sUse := sumOK_of_vc (c := cQ9) q9OK mixed Try.func49 rfl (by decide) @use_fun
def cQLooks : Ctx := ⟨tab, refs, [(38, sSeen), (17, sSameI)], [], keep, mps⟩
def sLawL : Sum := ⟨[configS, ratesS, u64, u64], fun _ => none, fun _ => .dat .bool (.B true)⟩
end Go.Proofs.Ytpfpgjkbnjnjnaa.Cf
