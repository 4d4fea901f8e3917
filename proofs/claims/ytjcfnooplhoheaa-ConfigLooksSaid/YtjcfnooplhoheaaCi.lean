/- Accounts of quotas, part 3: what the laws use; the laws. -/
import Derived.Test.YtjcfnooplhoheaaCh
namespace Go.Proofs.Ytjcfnooplhoheaa
open Go Go.Vm
set_option linter.unusedSimpArgs false
set_option maxRecDepth 10000
def sLight25 : Sum := ⟨[configS, ratesS], fun _ => none, fun
  | [c, r] => .dat .bool (.B (leB (nC c) 12 && leB (nR c) 12 && leB (nU r) 20))
  | _ => .und⟩
def cL : Ctx := ⟨tab, refs, [(72, sLight), (73, cloneS), (20, sSameI)], [], keep, mps⟩
theorem light25_fun : FunOK cL 40 Try.f23 sLight25 := fun c _ r _ _ => by
  exact Bears.bool rfl
def sOwnC : Sum := ⟨[configS], fun
  | [c] => some (nC c ≤ 1000 ∧ nR c ≤ 1000)
  | _ => none, fun
  | [c] => .dat configS c
  | _ => .und⟩
theorem ownC_fun : FunOK c0 40 Try.f25 sOwnC := fun c _ h => by
  replace h : nC c ≤ 1000 ∧ nR c ≤ 1000 := h
  refine ⟨?_, ?_, Bears.same ?_⟩
  · show 0 + nC c ≤ 1073741824; omega
  · show 0 + nR c ≤ 1073741824; omega
  · simp [Same, Sames]
def sOwnR : Sum := ⟨[ratesS], fun
  | [r] => some (nU r ≤ 1000)
  | _ => none, fun
  | [r] => .dat ratesS r
  | _ => .und⟩
theorem ownR_fun : FunOK cL 40 Try.f26 sOwnR := fun r _ h => by
  replace h : nU r ≤ 1000 := h
  refine ⟨?_, Bears.same ?_⟩
  · show nU r ≤ 1073741824; omega
  · simp [Same, Sames]
def sSame25 : Sum := ⟨[ratesS, ratesS], fun _ => none, fun
  | [a, b] => .dat .bool (.B (sameI (rl a) (rl b)))
  | _ => .und⟩
theorem same25_fun : FunOK cL 40 Try.f33 sSame25 := fun a _ b _ _ => by
  exact Bears.bool rfl
theorem sameK_fun : FunOK c0 60 Try.f36 sSameC := fun a ha b hb _ => by
  simp only [InR, InRs] at ha hb
  have ha0 : nC a ≤ 9223372036854775807 := ha.1.1
  have ha2 : nR a ≤ 9223372036854775807 := ha.2.2.1.1
  clear ha hb
  refine ⟨fun h1 => Bears.bool ?_, fun h1 => ?_⟩
  all_goals replace h1 : ((nC a : Int) != (nC b : Int) || (nR a : Int) != (nR b : Int) || !eqD (.arr 6 tenS) (a.nth 1) (b.nth 1) || (a.nth 3).int != (b.nth 3).int) = _ := h1
  · show false = sameC a b
    symm
    rw [sameC, sameL, sameL]
    simp only [bne, Bool.or_eq_true, Bool.not_eq_true', beq_eq_false_iff_ne, ne_eq, Int.natCast_inj] at h1
    rcases h1 with ((h1 | h1) | h1) | h1
    · rw [beq_eq_false_iff_ne.mpr (show ¬ (cls a).length = (cls b).length from h1)]; simp
    · rw [beq_eq_false_iff_ne.mpr (show ¬ (rls a).length = (rls b).length from h1)]; simp
    · rw [h1]; simp
    · rw [beq_eq_false_iff_ne.mpr h1]; simp
  simp only [bne, Bool.or_eq_false_iff, Bool.not_eq_false', beq_iff_eq, Int.natCast_inj] at h1
  obtain ⟨⟨⟨e3, e4⟩, e1⟩, e2⟩ := h1
  refine ⟨{ i : Nat // i ≤ nC a ∧ ∀ k, k < i → eqD classS (clsAt a k) (clsAt b k) = true }, 2, fun i => ([(5, .dat i64 (.I i.1)), (2, .ptr 0 configS [] configS), (3, .ptr 1 configS [] configS)], [(0, .box configS (.dat configS a)), (1, .box configS (.dat configS b))]), fun i => nC a - i.1,
    ⟨0, by omega, fun k h => by omega⟩, ⟨[], rfl, ⟨rfl, rfl, rfl, trivial⟩, ⟨rfl, rfl, trivial⟩⟩, ?_⟩
  intro x
  obtain ⟨i, hi, h0⟩ := x
  have hlt : ltB (i : Int) (nC a : Int) = true → i < nC a := ltN
  have hge : ltB (i : Int) (nC a : Int) = false → i = nC a := geN hi
  have eC : (cls a).length = (cls b).length := e3
  have eR : (rls a).length = (rls b).length := e4
  refine ⟨fun h1 => ⟨?_, ?_, by kernel_rfl, fun h2 => Bears.bool ?_, fun h2 => ?_⟩, fun h1 => ?_⟩
  · have := hlt h1; show 0 ≤ (i : Int) ∧ (i : Int) < (nC a : Int); omega
  · have := hlt h1; show 0 ≤ (i : Int) ∧ (i : Int) < (nC b : Int); omega
  · replace h2 : (!eqD classS (clsAt a i) (clsAt b i)) = true := h2
    have hf : sameL classS (cls a) (cls b) = false := sameL_f (hlt h1) ((Bool.not_eq_true' _).mp h2)
    show false = sameC a b
    rw [sameC, hf]; simp
  · replace h2 : (!eqD classS (clsAt a i) (clsAt b i)) = false := h2
    have := hlt h1
    exact ⟨⟨i + 1, by omega, upto h0 (by simpa using h2)⟩, ⟨[], rfl, ⟨slot (i64_1 (n := i) (by omega)), rfl, rfl, trivial⟩, ⟨rfl, rfl, trivial⟩⟩, by show _ - (i + 1) < _ - i; omega⟩
  have hC : sameL classS (cls a) (cls b) = true := by
    have e := hge h1
    exact sameL_t eC fun k hk => h0 k (by rw [e]; exact hk)
  clear h1 hlt hge
  refine ⟨{ i : Nat // i ≤ nR a ∧ ∀ k, k < i → eqD ruleS (rlsAt a k) (rlsAt b k) = true }, 2, fun i => ([(6, .dat i64 (.I i.1)), (2, .ptr 0 configS [] configS), (3, .ptr 1 configS [] configS)], [(0, .box configS (.dat configS a)), (1, .box configS (.dat configS b))]), fun i => nR a - i.1,
    ⟨0, by omega, fun k h => by omega⟩, ⟨[], rfl, ⟨rfl, rfl, rfl, trivial⟩, ⟨rfl, rfl, trivial⟩⟩, ?_⟩
  intro x
  obtain ⟨i, hi, h0⟩ := x
  have hlt : ltB (i : Int) (nR a : Int) = true → i < nR a := ltN
  have hge : ltB (i : Int) (nR a : Int) = false → i = nR a := geN hi
  refine ⟨fun h1 => ⟨?_, ?_, by kernel_rfl, fun h2 => Bears.bool ?_, fun h2 => ?_⟩, fun h1 => Bears.bool ?_⟩
  · have := hlt h1; show 0 ≤ (i : Int) ∧ (i : Int) < (nR a : Int); omega
  · have := hlt h1; show 0 ≤ (i : Int) ∧ (i : Int) < (nR b : Int); omega
  · replace h2 : (!eqD ruleS (rlsAt a i) (rlsAt b i)) = true := h2
    have hf : sameL ruleS (rls a) (rls b) = false := sameL_f (hlt h1) ((Bool.not_eq_true' _).mp h2)
    show false = sameC a b
    rw [sameC, hf]; simp
  · replace h2 : (!eqD ruleS (rlsAt a i) (rlsAt b i)) = false := h2
    have := hlt h1
    exact ⟨⟨i + 1, by omega, upto h0 (by simpa using h2)⟩, ⟨[], rfl, ⟨slot (i64_1 (n := i) (by omega)), rfl, rfl, trivial⟩, ⟨rfl, rfl, trivial⟩⟩, by show _ - (i + 1) < _ - i; omega⟩
  · have e := hge h1
    have hR : sameL ruleS (rls a) (rls b) = true := sameL_t eR fun k hk => h0 k (by rw [e]; exact hk)
    show true = sameC a b
    rw [sameC, hC, e1, hR, e2]; simp

def sizes : Nat → D
  | 0 => D0 (.arr 6 tenS)
  | n + 1 => D.puts (.arr 6 tenS) (sizes n) [.idx n, .fld 0] (.I 1)
def shownQ : D := .L [.L [.L [.I 0, .I 1, .I 1], .L [.I 2, .I 1, .I 2]], sizes 6, .L [], .I 1]
def sShownQ : Sum := ⟨[], fun _ => none, fun _ => .dat configS shownQ⟩
theorem shownQ_fun : FunOK c0 60 Try.f45 sShownQ := fun _ => by
  refine ⟨{ i : Nat // i ≤ 6 }, 3, fun i => ([(2, .dat i64 (.I i.1)), (1, .ptr 2 configS [] configS), (0, .ptr 0 configS [] configS)], [(2, .box configS (.st [.slice classS, .arr 6 tenS, .slice ruleS, u64] [.own 1 classS, .dat (.arr 6 tenS) (sizes i.1), .cst (Value.slice none 0 0), .dat u64 (.I 1)])), (1, .grow classS (cls shownQ)), (0, .box configS (.st [.slice classS, .arr 6 tenS, .slice ruleS, u64]
    [.cst (Value.slice none 0 0), .dat (.arr 6 tenS) (D0 (.arr 6 tenS)), .cst (Value.slice none 0 0), .dat u64 (D0 u64)]))]), fun i => 6 - i.1,
    ⟨0, by omega⟩, ⟨[], rfl, ⟨rfl, rfl, rfl, trivial⟩, ⟨rfl, rfl, rfl, trivial⟩⟩, ?_⟩
  intro x
  obtain ⟨i, hi⟩ := x
  have hlt : ltB (i : Int) 6 = true → i < 6 := fun h => by simp only [ltB_true] at h; omega
  have hge : ltB (i : Int) 6 = false → i = 6 := fun h => by simp only [ltB_false] at h; omega
  refine ⟨fun h1 => ⟨?_, ?_⟩, fun h1 => Bears.same (eqSame ?_)⟩
  · have := hlt h1; show 0 ≤ (i : Int) ∧ (i : Int) < ((6 : Nat) : Int); omega
  · have := hlt h1
    exact ⟨⟨i + 1, by omega⟩, ⟨[], rfl, ⟨slot (i64_1 (n := i) (by omega)), rfl, rfl, trivial⟩, ⟨rfl, rfl, rfl, trivial⟩⟩, by show _ - (i + 1) < _ - i; omega⟩
  · have e := hge h1
    subst e
    rfl
def sRates : Sum := ⟨[.slice i64], fun _ => none, fun
  | [a] => .dat ratesS (.L [a])
  | _ => .und⟩
theorem rates_fun : FunOK c0 60 Try.f46 sRates := fun a _ _ => by
  exact Bears.same Same.rfl
def sUsed : Sum := ⟨[ratesS, u64], fun _ => none, fun
  | [r, l] => .dat (.slice i64) (.L (rl (useU shownQ r l.int)))
  | _ => .und⟩
def cUs : Ctx := ⟨tab, refs, [(45, sShownQ), (29, sUse)], [], keep, mps⟩
theorem used_fun : FunOK cUs 60 Try.f47 sUsed := fun r _ l _ _ => by
  exact ⟨by kernel_rfl, Bears.same (by simp [Same, rl])⟩
def cAwQ : Ctx := ⟨tab, refs, [(45, sShownQ), (29, sUse), (27, sQNew), (31, sQClass), (20, sSameI), (46, sRates), (47, sUsed)], [], keep, mps⟩
theorem awakeQ_fun : FunOK cAwQ 100 Try.f24 sTrue := fun _ => by
  refine ⟨?_, trivial, ?_, trivial, ?_, trivial, ?_, trivial, Bears.bool ?_⟩
  · show (chE shownQ == 0) = true
    kernel_rfl
  iterate 3
    · show (chE shownQ == 0 && sameI (rl (newU shownQ)) [.I 0, .I 0] && qX shownQ 2 == 0 && clN shownQ 2 == 1 && useX shownQ (D.L [D.L [.I 0, .I 2]]) 2 == 15) = true
      kernel_rfl
  · show (chE shownQ == 0 && sameI (rl (newU shownQ)) [.I 0, .I 0] && qX shownQ 2 == 0 && clN shownQ 2 == 1 && useX shownQ (D.L [D.L [.I 0, .I 2]]) 2 == 15 && sameI (rl (useU shownQ (D.L [D.L [.I 0, .I 1]]) 2)) [.I 0, .I 2]) = true
    kernel_rfl
def cQUses : Ctx := ⟨tab, refs, [(23, sLight25), (24, sTrue), (25, sOwnC), (26, sOwnR), (27, sQNew), (28, sQNew), (29, sUse), (30, sUse), (31, sQClass), (32, sQClass), (33, sSame25), (34, sQk), (35, sQk), (36, sSameC)], [], keep, mps⟩
def sLawU : Sum := ⟨[configS, ratesS, u64], fun _ => none, fun _ => .dat .bool (.B true)⟩
theorem usesLaw_fun : FunOK cQUses 100 Try.f4 sLawU := fun c hc r hr l hl _ => by
  refine ⟨fun h1 => Bears.bool rfl, fun h1 => ⟨?_, ?_, by kernel_rfl, by kernel_rfl, Bears.bool ?_⟩⟩
  all_goals replace h1 : (!(leB (nC c) 12 && leB (nR c) 12 && leB (nU r) 20)) = false := h1
  all_goals simp only [Bool.not_eq_false', Bool.and_eq_true, leB_true] at h1
  · show nC c ≤ 1000 ∧ nR c ≤ 1000
    omega
  · show nU r ≤ 1000
    omega
  · show (sameI (rl (newU c)) (rl (newU c)) && chE c == chE c && sameI (rl (useU c r l.int)) (rl (useU c r l.int)) && useX c r l.int == useX c r l.int && clN c l.int == clN c l.int && qX c l.int == qX c l.int && qk c r == qk c r && sameC c c && sameI (rl r) (rl r) && true) = true
    simp only [beq_self_eq_true, sameI_rfl, sameC_rfl, Bool.and_self]
end Go.Proofs.Ytjcfnooplhoheaa
