/- Accounts of quotas. -/
import Derived.Test.YtjcfnooplhoheaaCe
namespace Go.Proofs.Ytjcfnooplhoheaa
open Go Go.Vm
set_option linter.unusedSimpArgs false
set_option maxRecDepth 10000
def rl (r : D) : List D := (r.nth 0).list
def nU (r : D) : Nat := (rl r).length
def usedAt (r : D) (i : Nat) : Int := ((rl r).getD i .Z).int
def rtBad (c r : D) (i : Nat) : Bool := ltB (usedAt r i) 0 || ltB (rateAt c i) (usedAt r i)
/-- The error of quotas. -/
def qk (c r : D) : Int := if chE c ≠ 0 then chE c else if nU r ≠ nC c then 3 else if (List.range (nU r)).any (rtBad c r) = true then 2 else 0
def sQk : Sum := ⟨[configS, ratesS], fun _ => none, fun
  | [c, r] => .dat i64 (.I (qk c r))
  | _ => .und⟩
theorem qCheck_fun : FunOK cK2 60 Try.f34 sQk := fun c hc r hr _ => by
  simp only [InR, InRs] at hc hr
  have hu : nU r ≤ 9223372036854775807 := hr.1.1
  clear hc hr
  refine ⟨fun h1 => Bears.int ?_, fun h1 => ⟨fun h2 => Bears.int ?_, fun h2 => ?_⟩⟩
  all_goals replace h1 : (chE c != 0) = _ := h1
  all_goals simp only [bne_iff_ne, ne_eq, bne_eq_false_iff_eq] at h1
  · show chE c = qk c r
    rw [qk, if_pos h1]
  all_goals replace h2 : ((nU r : Int) != (nC c : Int)) = _ := h2
  all_goals simp only [bne_iff_ne, ne_eq, bne_eq_false_iff_eq, Int.natCast_inj] at h2
  · show 3 = qk c r
    rw [qk, if_neg (by simp [h1]), if_pos h2]
  refine ⟨{ i : Nat // i ≤ nU r ∧ ∀ k, k < i → rtBad c r k = false }, 2, fun i => ([(27, .dat i64 (.I i.1)), (26, .dat i64 (.I (nU r))), (25, .dat (.slice i64) (r.nth 0)), (2, .ptr 0 configS [] configS)], [(0, .box configS (.dat configS c))]), fun i => nU r - i.1,
    ⟨0, by omega, fun k h => by omega⟩, ⟨[], rfl, ⟨rfl, rfl, rfl, rfl, trivial⟩, ⟨rfl, trivial⟩⟩, ?_⟩
  intro x
  obtain ⟨i, hi, h0⟩ := x
  have hlt : ltB (i : Int) (nU r : Int) = true → i < nU r := ltN
  have hge : ltB (i : Int) (nU r : Int) = false → i = nU r := geN hi
  refine ⟨fun h3 => ⟨?_, fun _ => ⟨?_, ?_⟩, fun h4 => Bears.int ?_, fun h4 => ?_⟩, fun h3 => Bears.int ?_⟩
  · have := hlt h3; show 0 ≤ (i : Int) ∧ (i : Int) < (nU r : Int); omega
  · show 0 ≤ (i : Int); omega
  · have := hlt h3; show (i : Int) < (nC c : Int); omega
  · replace h4 : rtBad c r i = true := h4
    have hk := hlt h3
    show 2 = qk c r
    rw [qk, if_neg (by simp [h1]), if_neg (by simp [h2]), if_pos]
    exact List.any_eq_true.2 ⟨i, by simpa using hk, h4⟩
  · replace h4 : rtBad c r i = false := h4
    have hk := hlt h3
    exact ⟨⟨i + 1, by omega, upto h0 h4⟩, ⟨[], rfl, ⟨slot (i64_1 (n := i) (by omega)), rfl, rfl, rfl, trivial⟩, ⟨rfl, trivial⟩⟩, by show _ - (i + 1) < _ - i; omega⟩
  · have e := hge h3
    show 0 = qk c r
    rw [qk, if_neg (by simp [h1]), if_neg (by simp [h2]), if_neg]
    simp only [List.any_eq_true, List.mem_range, not_exists, not_and, Bool.not_eq_true]
    exact fun k hk => h0 k (by omega)
def cQ1 : Ctx := ⟨tab, refs, [(51, sCheckC), (52, sCheckC)], [], keep, mps⟩
theorem qCheckR_fun : FunOK cQ1 60 Try.f35 sQk := fun c hc r hr _ => by
  simp only [InR, InRs] at hc hr
  have hu : nU r ≤ 9223372036854775807 := hr.1.1
  clear hc hr
  refine ⟨fun h1 => Bears.int ?_, fun h1 => ⟨fun h2 => Bears.int ?_, fun h2 => ?_⟩⟩
  all_goals replace h1 : (chE c != 0) = _ := h1
  all_goals simp only [bne_iff_ne, ne_eq, bne_eq_false_iff_eq] at h1
  · show chE c = qk c r
    rw [qk, if_pos h1]
  all_goals replace h2 : ((nU r : Int) != (nC c : Int)) = _ := h2
  all_goals simp only [bne_iff_ne, ne_eq, bne_eq_false_iff_eq, Int.natCast_inj] at h2
  · show 3 = qk c r
    rw [qk, if_neg (by simp [h1]), if_pos h2]
  refine ⟨{ i : Nat // i ≤ nU r ∧ ∀ k, k < i → rtBad c r k = false }, 2, fun i => ([(7, .dat i64 (.I i.1)), (3, .ptr 1 ratesS [] ratesS), (2, .ptr 0 configS [] configS)], [(1, .box ratesS (.dat ratesS r)), (0, .box configS (.dat configS c))]), fun i => nU r - i.1,
    ⟨0, by omega, fun k h => by omega⟩, ⟨[], rfl, ⟨rfl, rfl, rfl, trivial⟩, ⟨rfl, rfl, trivial⟩⟩, ?_⟩
  intro x
  obtain ⟨i, hi, h0⟩ := x
  have hlt : ltB (i : Int) (nU r : Int) = true → i < nU r := ltN
  have hge : ltB (i : Int) (nU r : Int) = false → i = nU r := geN hi
  refine ⟨fun h3 => ⟨?_, fun _ => ⟨?_, ?_⟩, fun _ => ⟨?_, ?_⟩, by kernel_rfl, fun h4 => Bears.int ?_, fun h4 => ?_⟩, fun h3 => Bears.int ?_⟩
  · have := hlt h3; show 0 ≤ (i : Int) ∧ (i : Int) < (nU r : Int); omega
  · show 0 ≤ (i : Int); omega
  · have := hlt h3; show (i : Int) < (nU r : Int); omega
  · show 0 ≤ (i : Int); omega
  · have := hlt h3; show (i : Int) < (nC c : Int); omega
  · replace h4 : rtBad c r i = true := h4
    have hk := hlt h3
    show 2 = qk c r
    rw [qk, if_neg (by simp [h1]), if_neg (by simp [h2]), if_pos]
    exact List.any_eq_true.2 ⟨i, by simpa using hk, h4⟩
  · replace h4 : rtBad c r i = false := h4
    have hk := hlt h3
    exact ⟨⟨i + 1, by omega, upto h0 h4⟩, ⟨[], rfl, ⟨slot (i64_1 (n := i) (by omega)), rfl, rfl, trivial⟩, ⟨rfl, rfl, trivial⟩⟩, by show _ - (i + 1) < _ - i; omega⟩
  · have e := hge h3
    show 0 = qk c r
    rw [qk, if_neg (by simp [h1]), if_neg (by simp [h2]), if_neg]
    simp only [List.any_eq_true, List.mem_range, not_exists, not_and, Bool.not_eq_true]
    exact fun k hk => h0 k (by omega)
def qX (c : D) (L : Int) : Int := if chE c ≠ 0 then chE c else if fl c L < nC c then 0 else 14
def sQClass : Sum := ⟨[configS, u64], fun _ => none, fun
  | [c, l] => .tup [.dat i64 (.I (clN c l.int)), .dat i64 (.I (qX c l.int))]
  | _ => .und⟩
theorem qClass_fun : FunOK cK2 60 Try.f31 sQClass := fun c hc l hl _ => by
  simp only [InR, InRs] at hc
  have hn0 : nC c ≤ 9223372036854775807 := hc.1.1
  clear hc
  refine ⟨fun h1 => ⟨Bears.int ?_, Bears.int ?_, trivial⟩, fun h1 => ?_⟩
  all_goals replace h1 : (chE c != 0) = _ := h1
  all_goals simp only [bne_iff_ne, ne_eq, bne_eq_false_iff_eq] at h1
  · show 0 = clN c l.int
    rw [clN, if_pos h1]
  · show chE c = qX c l.int
    rw [qX, if_pos h1]
  refine ⟨{ x : Nat × List (D × D) // x.1 ≤ nC c ∧ (∀ L, mHas L x.2 = (List.range x.1).any fun k => labAt c k == L) ∧ ∀ k, k < x.1 → (mGet (.I 0) (labAt c k) x.2).int = k }, 3, fun x => ([(25, .dat i64 (.I x.1.1)), (24, .dat i64 (.I (nC c))), (23, .dat (.slice classS) (c.nth 0)), (8, .mp 2 u64 i64), (1, .dat u64 (.I l.int))], [(2, .map u64 i64 x.1.2)]), fun x => nC c - x.1.1,
    ⟨(0, []), by omega, fun L => rfl, fun k h => by omega⟩, ⟨[(2, 1)], rfl, ⟨rfl, rfl, rfl, rfl, rfl, trivial⟩, ⟨rfl, trivial⟩⟩, ?_⟩
  intro x
  obtain ⟨⟨i, es⟩, hi, hm, h0⟩ := x
  simp only at hi hm h0
  have hlt : ltB (i : Int) (nC c : Int) = true → i < nC c := ltN
  have hge : ltB (i : Int) (nC c : Int) = false → i = nC c := geN hi
  refine ⟨fun h2 => ⟨?_, ?_⟩, fun h2 => ⟨fun h3 => ⟨Bears.int ?_, Bears.int ?_, trivial⟩, fun h3 => ⟨Bears.int ?_, Bears.int ?_, trivial⟩⟩⟩
  · have := hlt h2; show 0 ≤ (i : Int) ∧ (i : Int) < (nC c : Int); omega
  · have hk := hlt h2
    refine ⟨⟨(i + 1, mPut (.I (labAt c i)) (.I i) es), by show i + 1 ≤ _; omega, fun L => ?_, fun k hk2 => ?_⟩, ⟨[], rfl, ⟨slot (i64_1 (n := i) (by omega)), rfl, rfl, rfl, rfl, trivial⟩, ⟨rfl, trivial⟩⟩, by show _ - (i + 1) < _ - i; omega⟩
    · show mHas L (mPut (.I (labAt c i)) (.I i) es) = (List.range (i + 1)).any fun k => labAt c k == L
      rw [mHas_mPut, List.range_succ, List.any_append, ← hm]
      by_cases e : labAt c i = L <;> simp [e]
    · show (mGet (.I 0) (labAt c k) (mPut (.I (labAt c i)) (.I i) es)).int = k
      rw [mGet_mPut]
      rcases Nat.lt_or_eq_of_le (Nat.le_of_lt_succ hk2) with h | rfl
      · rw [if_neg (show ¬ (D.I (labAt c i)).int = labAt c k from fun e => lab_inj h1 k i h hk e.symm)]; exact h0 k h
      · rw [if_pos (show (D.I (labAt c k)).int = labAt c k from rfl)]; rfl
  all_goals have e := hge h2
  all_goals subst e
  all_goals replace h3 : (!mHas l.int es) = _ := h3
  all_goals rw [hm] at h3
  · rw [clN, if_neg (by simp [h1])]
    have : fl c l.int = nC c := fl_none fun k hk e => by
      simp only [Bool.not_eq_true', List.any_eq_false, List.mem_range] at h3
      exact h3 k hk (by simp [e])
    show 0 = if fl c l.int < nC c then (fl c l.int : Int) else 0
    rw [if_neg (by omega)]
  · have : fl c l.int = nC c := fl_none fun k hk e => by
      simp only [Bool.not_eq_true', List.any_eq_false, List.mem_range] at h3
      exact h3 k hk (by simp [e])
    show 14 = qX c l.int
    rw [qX, if_neg (by simp [h1]), if_neg (by omega)]
  all_goals simp only [Bool.not_eq_false', List.any_eq_true, List.mem_range, beq_iff_eq] at h3
  all_goals obtain ⟨k, hk, e⟩ := h3
  all_goals have ef : fl c l.int = k := fl_at hk e fun j hj ej => lab_inj h1 j k hj hk (by omega)
  · show (mGet (.I 0) l.int es).int = clN c l.int
    rw [clN, if_neg (by simp [h1]), ef, if_pos hk, ← h0 k hk, e]
  · show 0 = qX c l.int
    rw [qX, if_neg (by simp [h1]), ef, if_pos hk]
def clI (c : D) (L : Int) : Int := if fl c L < nC c then fl c L else -1
def sClI : Sum := ⟨[configS, u64], fun _ => none, fun
  | [c, l] => .dat i64 (.I (clI c l.int))
  | _ => .und⟩
theorem qclass_fun : FunOK c0 60 Try.f76 sClI := fun c hc l hl _ => by
  simp only [InR, InRs] at hc
  have hn0 : nC c ≤ 9223372036854775807 := hc.1.1
  clear hc
  refine ⟨{ i : Nat // i ≤ nC c ∧ ∀ k, k < i → labAt c k ≠ l.int }, 1, fun i => ([(5, .dat i64 (.I i.1)), (2, .ptr 0 configS [] configS), (1, .dat u64 (.I l.int))], [(0, .box configS (.dat configS c))]), fun i => nC c - i.1,
    ⟨0, by omega, fun k h => by omega⟩, ⟨[], rfl, ⟨rfl, rfl, rfl, trivial⟩, ⟨rfl, trivial⟩⟩, ?_⟩
  intro x
  obtain ⟨i, hi, h0⟩ := x
  have hlt : ltB (i : Int) (nC c : Int) = true → i < nC c := ltN
  have hge : ltB (i : Int) (nC c : Int) = false → i = nC c := geN hi
  refine ⟨fun h2 => ⟨?_, fun h3 => Bears.int ?_, fun h3 => ?_⟩, fun h2 => Bears.int ?_⟩
  · have := hlt h2; show 0 ≤ (i : Int) ∧ (i : Int) < (nC c : Int); omega
  all_goals try replace h3 : (labAt c i == l.int) = _ := h3
  all_goals try simp only [beq_iff_eq, beq_eq_false_iff_ne] at h3
  · have ef := fl_at (hlt h2) h3 h0
    show (i : Int) = clI c l.int
    rw [clI, ef, if_pos (hlt h2)]
  · have := hlt h2
    exact ⟨⟨i + 1, by omega, upto h0 h3⟩, ⟨[], rfl, ⟨slot (i64_1 (n := i) (by omega)), rfl, rfl, trivial⟩, ⟨rfl, trivial⟩⟩, by show _ - (i + 1) < _ - i; omega⟩
  · have ef := fl_none (c := c) (L := l.int) fun k hk => h0 k (by rw [hge h2]; exact hk)
    show -1 = clI c l.int
    rw [clI, ef, if_neg (by omega)]
def cQ2 : Ctx := ⟨tab, refs, [(52, sCheckC), (76, sClI)], [], keep, mps⟩
theorem qClassR_fun : FunOK cQ2 60 Try.f32 sQClass := fun c hc l hl _ => by
  refine ⟨fun h1 => ⟨fun h2 => ⟨Bears.int ?_, Bears.int ?_, trivial⟩, fun h2 => tf h2⟩, fun h1 => ⟨fun h2 => ⟨Bears.int ?_, Bears.int ?_, trivial⟩, fun h2 => ⟨Bears.int ?_, Bears.int ?_, trivial⟩⟩⟩
  all_goals replace h1 : (chE c == 0 && ltB (clI c l.int) 0) = _ := h1
  all_goals try replace h2 : (chE c != 0) = _ := h2
  all_goals try simp only [bne_iff_ne, ne_eq, bne_eq_false_iff_eq] at h2
  all_goals by_cases hf : fl c l.int < nC c
  all_goals simp only [clI, hf, if_true, if_false] at h1
  all_goals simp only [ltB, Bool.and_eq_true, beq_iff_eq, decide_eq_true_eq] at h1
  · omega
  · show 0 = clN c l.int
    rw [clN, if_neg (by simp [h1.1]), if_neg hf]
  · omega
  · show 14 = qX c l.int
    rw [qX, if_neg (by simp [h1.1]), if_neg hf]
  · show 0 = clN c l.int
    rw [clN, if_pos h2]
  · show 0 = clN c l.int
    rw [clN, if_pos h2]
  · show chE c = qX c l.int
    rw [qX, if_pos h2]
  · show chE c = qX c l.int
    rw [qX, if_pos h2]
  · show clI c l.int = clN c l.int
    rw [clN, if_neg (by simp [h2]), clI, if_pos hf, if_pos hf]
  · simp [h2] at h1
  · show 0 = qX c l.int
    rw [qX, if_neg (by simp [h2]), if_pos hf]
  · simp [h2] at h1
def newU (c : D) : D := .L [.L (if chE c ≠ 0 then [] else List.replicate (nC c) (.I 0))]
def sQNew : Sum := ⟨[configS], fun _ => none, fun
  | [c] => .tup [.dat ratesS (newU c), .dat i64 (.I (chE c))]
  | _ => .und⟩
theorem qNew_fun : FunOK cQ1 60 Try.f27 sQNew := fun c hc _ => by
  refine ⟨fun h1 => ⟨Bears.same (eqSame ?_), Bears.int ?_, trivial⟩, fun h1 => ⟨?_, Bears.same (eqSame ?_), Bears.int ?_, trivial⟩⟩
  all_goals replace h1 : (chE c != 0) = _ := h1
  all_goals simp only [bne_iff_ne, ne_eq, bne_eq_false_iff_eq] at h1
  · show D.L [D.L []] = newU c
    rw [newU, if_pos h1]
  · rfl
  · have := nC_le h1
    show 0 ≤ (nC c : Int) ∧ (nC c : Int) ≤ (nC c : Int) ∧ (nC c : Int) ≤ 1073741824
    omega
  · show D.L [D.L (List.replicate (nC c) (.I 0))] = newU c
    rw [newU, if_neg (by simp [h1])]
  · exact h1.symm
theorem qNewR_fun : FunOK cQ1 60 Try.f28 sQNew := fun c hc _ => by
  refine ⟨fun h1 => ⟨Bears.same (eqSame ?_), Bears.int ?_, trivial⟩, fun h1 => ⟨?_, Bears.same (eqSame ?_), Bears.int ?_, trivial⟩⟩
  all_goals replace h1 : (chE c != 0) = _ := h1
  all_goals simp only [bne_iff_ne, ne_eq, bne_eq_false_iff_eq] at h1
  · show D.L [D.L []] = newU c
    rw [newU, if_pos h1]
  · rfl
  · have := nC_le h1
    show 0 ≤ (nC c : Int) ∧ (nC c : Int) ≤ (nC c : Int) ∧ (nC c : Int) ≤ 1073741824
    omega
  · show D.L [D.L (List.replicate (nC c) (.I 0))] = newU c
    rw [newU, if_neg (by simp [h1])]
  · exact h1.symm
def bothX (c r : D) (L : Int) : Int := if qk c r ≠ 0 then qk c r else qX c L
def bothN (c r : D) (L : Int) : Int := if qk c r ≠ 0 then 0 else clN c L
def sBoth : Sum := ⟨[configS, ratesS, u64], fun _ => none, fun
  | [c, r, l] => .tup [.dat i64 (.I (bothN c r l.int)), .dat i64 (.I (bothX c r l.int))]
  | _ => .und⟩
def cQ3 : Ctx := ⟨tab, refs, [(34, sQk), (31, sQClass), (35, sQk), (76, sClI)], [], keep, mps⟩
theorem both_fun : FunOK cQ3 60 Try.f74 sBoth := fun c hc r hr l hl _ => by
  refine ⟨fun h1 => ⟨Bears.int ?_, Bears.int ?_, trivial⟩, fun h1 => ⟨Bears.int ?_, Bears.int ?_, trivial⟩⟩
  all_goals replace h1 : (qk c r != 0) = _ := h1
  all_goals simp only [bne_iff_ne, ne_eq, bne_eq_false_iff_eq] at h1
  · show 0 = bothN c r l.int
    rw [bothN, if_pos h1]
  · show qk c r = bothX c r l.int
    rw [bothX, if_pos h1]
  · show clN c l.int = bothN c r l.int
    rw [bothN, if_neg (by simp [h1])]
  · show qX c l.int = bothX c r l.int
    rw [bothX, if_neg (by simp [h1])]
def leftN (c r : D) (L : Int) : Int := if bothX c r L ≠ 0 then 0 else rateAt c (fl c L) - usedAt r (fl c L)
def sLeft : Sum := ⟨[configS, ratesS, u64], fun _ => none, fun
  | [c, r, l] => .tup [.dat i64 (.I (leftN c r l.int)), .dat i64 (.I (bothX c r l.int))]
  | _ => .und⟩
theorem qk_0 {c r : D} (h : qk c r = 0) : chE c = 0 := by
  by_cases h1 : chE c = 0
  · exact h1
  · rw [qk, if_pos h1] at h; exact h
theorem qk_ok {c r : D} (h : qk c r = 0) : nU r = nC c ∧ ∀ k, k < nU r → rtBad c r k = false := by
  rw [qk, if_neg (by simp [qk_0 h])] at h
  split at h
  · cases h
  · rename_i h2
    split at h
    · cases h
    · rename_i h3
      refine ⟨by simpa using h2, fun k hk => ?_⟩
      simp only [List.any_eq_true, List.mem_range, not_exists, not_and, Bool.not_eq_true] at h3
      exact h3 k hk
theorem bothX_0 {c r : D} {L : Int} (h : bothX c r L = 0) : qk c r = 0 ∧ fl c L < nC c ∧ fl c L < nU r ∧ (0 ≤ usedAt r (fl c L) ∧ usedAt r (fl c L) ≤ rateAt c (fl c L) ∧ 0 ≤ rateAt c (fl c L) ∧ rateAt c (fl c L) ≤ 64) := by
  have hq : qk c r = 0 := by
    by_cases h1 : qk c r = 0
    · exact h1
    · rw [bothX, if_pos h1] at h; exact h
  rw [bothX, if_neg (by simp [hq]), qX, if_neg (by simp [qk_0 hq])] at h
  have hf : fl c L < nC c := by
    by_cases h1 : fl c L < nC c
    · exact h1
    · rw [if_neg h1] at h; cases h
  obtain ⟨h1, h2⟩ := qk_ok hq
  have h3 := h2 (fl c L) (by omega)
  have h4 := (ch_ok.1 (qk_0 hq)).2.1 _ hf
  have h5 : clBad (clsAt c (fl c L)) = false := by
    by_cases hb : clBad (clsAt c (fl c L)) = true
    · rw [clE_2 hb] at h4; cases h4
    · simpa using hb
  simp only [rtBad, Bool.or_eq_false_iff, ltB_false] at h3
  simp only [clBad, out, Bool.or_eq_false_iff, ltB_false] at h5
  have h6 : rateAt c (fl c L) = ((clsAt c (fl c L)).nth 2).int := rfl
  exact ⟨hq, hf, by omega, by omega⟩
theorem bothX_14 {c r : D} {L : Int} (h : (qk c r == 0 && ltB (clI c L) 0) = true) : bothX c r L = 14 := by
  simp only [ltB, Bool.and_eq_true, beq_iff_eq, decide_eq_true_eq] at h
  rw [bothX, if_neg (by simp [h.1]), qX, if_neg (by simp [qk_0 h.1]), if_neg]
  intro hf
  have := h.2
  rw [clI, if_pos hf] at this; omega
theorem bothX_ok {c r : D} {L : Int} (hq : qk c r = 0) (h : (qk c r == 0 && ltB (clI c L) 0) = false) : bothX c r L = 0 := by
  rw [bothX, if_neg (by simp [hq]), qX, if_neg (by simp [qk_0 hq]), if_pos]
  by_cases hf : fl c L < nC c
  · exact hf
  · simp [hq, clI, hf, ltB] at h
def cQ4 : Ctx := ⟨tab, refs, [(74, sBoth)], [], keep, mps⟩
theorem left_fun : FunOK cQ4 60 Try.f39 sLeft := fun c hc r hr l hl _ => by
  refine ⟨fun h1 => ⟨Bears.int ?_, Bears.int rfl, trivial⟩, fun h1 => ⟨?_, ?_, by kernel_rfl, Bears.int ?_, Bears.int ?_, trivial⟩⟩
  all_goals replace h1 : (bothX c r l.int != 0) = _ := h1
  all_goals simp only [bne_iff_ne, ne_eq, bne_eq_false_iff_eq] at h1
  · show 0 = leftN c r l.int
    rw [leftN, if_pos h1]
  all_goals obtain ⟨hq, hf, hU, hw⟩ := bothX_0 h1
  all_goals have hN : bothN c r l.int = (fl c l.int : Nat) := by rw [bothN, if_neg (by simp [hq]), clN, if_neg (by simp [qk_0 hq]), if_pos hf]
  · show 0 ≤ bothN c r l.int ∧ bothN c r l.int < (nC c : Int)
    rw [hN]; omega
  · show 0 ≤ bothN c r l.int ∧ bothN c r l.int < (nU r : Int)
    rw [hN]; omega
  · show IntKind.wrap .i64 (rateAt c (bothN c r l.int).toNat - usedAt r (bothN c r l.int).toNat) = leftN c r l.int
    rw [leftN, if_neg (by simp [h1]), hN, Int.toNat_natCast, wrap_i64 (by omega) (by omega)]
  · exact h1.symm
theorem leftR_fun : FunOK cQ3 60 Try.f40 sLeft := fun c hc r hr l hl _ => by
  refine ⟨fun h1 => ⟨fun h2 => ⟨Bears.int ?_, Bears.int ?_, trivial⟩, fun h2 => tf h2⟩, fun h1 => ⟨fun h2 => ⟨Bears.int ?_, Bears.int ?_, trivial⟩, fun h2 => ⟨?_, ?_, by kernel_rfl, Bears.int ?_, Bears.int ?_, trivial⟩⟩⟩
  all_goals replace h1 : (qk c r == 0 && ltB (clI c l.int) 0) = _ := h1
  all_goals try replace h2 : (qk c r != 0) = _ := h2
  all_goals try simp only [bne_iff_ne, ne_eq, bne_eq_false_iff_eq] at h2
  · have hx := bothX_14 h1
    show 0 = leftN c r l.int
    rw [leftN, if_pos (by rw [hx]; decide)]
  · exact (bothX_14 h1).symm
  · show 0 = leftN c r l.int
    rw [leftN, if_pos (by rw [bothX, if_pos h2]; exact h2)]
  · show qk c r = bothX c r l.int
    rw [bothX, if_pos h2]
  all_goals have h1 := bothX_ok h2 h1
  all_goals obtain ⟨hq, hf, hU, hw⟩ := bothX_0 h1
  all_goals have hN : clI c l.int = (fl c l.int : Nat) := by rw [clI, if_pos hf]
  · show 0 ≤ clI c l.int ∧ clI c l.int < (nC c : Int)
    rw [hN]; omega
  · show 0 ≤ clI c l.int ∧ clI c l.int < (nU r : Int)
    rw [hN]; omega
  · show IntKind.wrap .i64 (rateAt c (clI c l.int).toNat - usedAt r (clI c l.int).toNat) = leftN c r l.int
    rw [leftN, if_neg (by simp [h1]), hN, Int.toNat_natCast, wrap_i64 (by omega) (by omega)]
  · exact h1.symm
def sMay : Sum := ⟨[configS, ratesS, u64], fun _ => none, fun
  | [c, r, l] => .tup [.dat .bool (.B (ltB 0 (leftN c r l.int))), .dat i64 (.I (bothX c r l.int))]
  | _ => .und⟩
def cQ5 : Ctx := ⟨tab, refs, [(39, sLeft), (40, sLeft), (76, sClI), (75, ⟨[.slice i64], fun _ => none, fun | [a] => .dat (.slice i64) a | _ => .und⟩), (74, sBoth)], [], keep, mps⟩
theorem may_fun : FunOK cQ5 60 Try.f37 sMay := fun c hc r hr l hl _ => by
  exact ⟨Bears.bool rfl, Bears.int rfl, trivial⟩
theorem mayR_fun : FunOK cQ5 60 Try.f38 sMay := fun c hc r hr l hl _ => by
  exact ⟨Bears.bool rfl, Bears.int rfl, trivial⟩
end Go.Proofs.Ytjcfnooplhoheaa
