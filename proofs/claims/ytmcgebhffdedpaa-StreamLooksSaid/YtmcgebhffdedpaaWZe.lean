/- Accounts of the library's sort of labels: what is nearly sorted. -/
import Derived.Test.YtmcgebhffdedpaaWZd
namespace Go.Proofs.Ytmcgebhffdedpaa
open Go Go.Vm
set_option linter.unusedSimpArgs false
set_option linter.unusedVariables false
set_option maxRecDepth 10000
def mPar : MSum := ⟨u64, [.dat i64, .dat i64], fun xs ds => match ds with
  | [a, b] => some (0 ≤ a.int ∧ a.int < b.int ∧ b.int ≤ xs.length ∧ xs.length ≤ 1000000)
  | _ => some False, fun xs ds => match ds with
  | [a, b] => .dat .bool (.B (Go.Sort.partialInsertionSort Go.Sort.ltInt (arr xs) (natD a) (natD b)).2)
  | _ => .und, fun xs ds => match ds with
  | [a, b] => unarr (Go.Sort.partialInsertionSort Go.Sort.ltInt (arr xs) (natD a) (natD b)).1
  | _ => xs⟩
noncomputable def cPar : Ctx := ⟨tabS, [], [(51, sLess)], [], keep, [(3133061, .flag true)]⟩
theorem sc_go {d : Array Int} {b i : Nat} (h : (decide (i < b) && !Go.Sort.ltInt d[i]! d[i - 1]!) = true) : Go.Sort.scanSorted Go.Sort.ltInt d b (i + 1) = Go.Sort.scanSorted Go.Sort.ltInt d b i := by
  conv => rhs; rw [Go.Sort.scanSorted, if_pos h]
theorem sc_stop {d : Array Int} {b i : Nat} (h : (decide (i < b) && !Go.Sort.ltInt d[i]! d[i - 1]!) = false) : Go.Sort.scanSorted Go.Sort.ltInt d b i = i := by
  rw [Go.Sort.scanSorted, if_neg (by rw [h]; decide)]
theorem ltD (i j : Nat) : ltB (i : Int) (j : Int) = decide (i < j) := by
  rw [Bool.eq_iff_iff, ltB_true, decide_eq_true_eq]; omega
set_option maxHeartbeats 4000000 in
theorem par_fun : FunMOK cPar 100 Try.f50 mPar := fun xs hx a ha b hb h => by
  replace h : 0 ≤ a.int ∧ a.int < b.int ∧ b.int ≤ xs.length ∧ xs.length ≤ 1000000 := h
  obtain ⟨k1, k2, k3, k5⟩ := h
  obtain ⟨A, hA, hA'⟩ := natD_of (a := a) (by omega)
  obtain ⟨B, hB, hB'⟩ := natD_of (a := b) (by omega)
  obtain ⟨R, hR⟩ : ∃ R, R = Go.Sort.partialInsertionSort Go.Sort.ltInt (arr xs) A B := ⟨_, rfl⟩
  have hfin : ∀ (l : List D) (f : Bool), (arr l, f) = R → BearsL u64 l (mPar.out xs [a, b]) ∧ Bears .bool (.B f) (.B (Go.Sort.partialInsertionSort Go.Sort.ltInt (arr xs) (natD a) (natD b)).2) := fun l f e => by
    rw [hR] at e
    constructor
    · show BearsL u64 l (unarr (Go.Sort.partialInsertionSort Go.Sort.ltInt (arr xs) (natD a) (natD b)).1)
      rw [hA', hB']; exact bearsA (congrArg Prod.fst e)
    · rw [hA', hB']; exact Bears.bool (congrArg Prod.snd e)
  have wA : IntKind.i64.wrap (a.int + 1) = ((A + 1 : Nat) : Int) := w64 (by omega) (by omega)
  refine ⟨{ x : (Nat × Nat) × List D // x.1.1 ≤ 5 ∧ A < x.1.2 ∧ x.1.2 ≤ B ∧ x.2.length = xs.length ∧ Go.Sort.partialIns Go.Sort.ltInt A B (5 - x.1.1) x.1.2 (arr x.2) = R }, 1,
    fun x => ([(8, .dat i64 (.I x.1.1.1)), (7, .dat i64 (.I x.1.1.2)), (0, .own 0 u64), (1, .dat i64 (.I A)), (2, .dat i64 (.I B))], [(0, .grow u64 x.1.2)]), fun x => 5 - x.1.1.1,
    ⟨((0, A + 1), xs), by show 0 ≤ 5; omega, by show A < A + 1; omega, by show A + 1 ≤ B; omega, rfl, hR.symm⟩, ⟨[], rfl, ⟨rfl, slot wA, rfl, slot hA, slot hB, trivial⟩, ⟨rfl, trivial⟩⟩, ?_⟩
  intro x
  obtain ⟨⟨⟨j, i0⟩, l⟩, g0, g1, g1', g2, g3⟩ := x
  simp only at g0 g1 g1' g2 g3
  refine ⟨fun h1 => ?_, fun h1 => ?_⟩
  case refine_2 =>
    replace h1 : ltB (j : Int) 5 = false := h1
    rw [ltB_false] at h1
    have hj : j = 5 := by omega
    subst hj
    obtain ⟨f1, f2⟩ := hfin l false g3
    exact ⟨⟨rfl, f1⟩, f2⟩
  replace h1 : ltB (j : Int) 5 = true := h1
  rw [ltB_true] at h1
  obtain ⟨s, hs⟩ : ∃ s, 5 - j = s + 1 := ⟨4 - j, by omega⟩
  have hs' : 5 - (j + 1) = s := by omega
  rw [hs] at g3
  refine ⟨{ u : Nat // i0 ≤ u ∧ u ≤ B ∧ Go.Sort.scanSorted Go.Sort.ltInt (arr l) B u = Go.Sort.scanSorted Go.Sort.ltInt (arr l) B i0 }, 1, fun u => ([(7, .dat i64 (.I u.1)), (8, .dat i64 (.I j)), (0, .own 0 u64), (1, .dat i64 (.I A)), (2, .dat i64 (.I B))], [(0, .grow u64 l)]), fun u => B - u.1,
    ⟨i0, by omega, by omega, rfl⟩, ⟨[], rfl, ⟨rfl, rfl, rfl, rfl, rfl, trivial⟩, ⟨rfl, trivial⟩⟩, ?_⟩
  intro u
  obtain ⟨i, u1, u2, u3⟩ := u
  have w1 : IntKind.i64.wrap ((i : Int) - 1) = ((i - 1 : Nat) : Int) := w64 (by omega) (by omega)
  have bu1 : i - 1 < l.length := by omega
  refine ⟨fun hk => ix (show i < l.length by have h9 : i < B := ltN (keyOne hk); omega), fun hk => ixW w1 bu1, by kernel_rfl, fun h2 => ?_, fun h2 => ?_⟩
  · have h3 : (decide (i < B) && !Go.Sort.ltInt (arr l)[i]! (arr l)[i - 1]!) = true := by rw [← ltD, ← ltE rfl w1]; exact h2
    have hlt : i < B := by
      simp only [Bool.and_eq_true, decide_eq_true_eq] at h3; exact h3.1
    have wu : IntKind.i64.wrap ((i : Int) + 1) = ((i + 1 : Nat) : Int) := w64 (by omega) (by omega)
    exact ⟨⟨i + 1, Nat.le_succ_of_le u1, hlt, (sc_go h3).trans u3⟩, ⟨[], rfl, ⟨slot wu, rfl, rfl, rfl, rfl, trivial⟩, ⟨rfl, trivial⟩⟩, by show B - (i + 1) < B - i; omega⟩
  have h3 : (decide (i < B) && !Go.Sort.ltInt (arr l)[i]! (arr l)[i - 1]!) = false := by rw [← ltD, ← ltE rfl w1]; exact h2
  have hi := (sc_stop h3).symm.trans u3
  have hsucc := Go.Sort.partialIns_succ (lt := Go.Sort.ltInt) A B s i0 (arr l)
  rw [← hi, g3] at hsucc
  clear h2 h3
  have wBA : IntKind.i64.wrap ((B : Int) - (A : Int)) = ((B - A : Nat) : Int) := w64 (by omega) (by omega)
  refine ⟨fun h2 => ?_, fun h2 => ⟨fun h3 => ?_, fun h3 => ?_⟩⟩
  · have h2 : ((i : Int) == (B : Int)) = true := h2
    rw [if_pos (by have h := h2; simp only [beq_iff_eq, beq_eq_false_iff_ne, ne_eq, Int.natCast_inj] at h; exact h)] at hsucc
    obtain ⟨f1, f2⟩ := hfin l true hsucc.symm
    exact ⟨⟨rfl, f1⟩, f2⟩
  · have h2 : ((i : Int) == (B : Int)) = false := h2
    replace h3 : ltB (IntKind.i64.wrap ((B : Int) - (A : Int))) 50 = true := h3
    rw [wBA, ltB_true] at h3
    rw [if_neg (by have h := h2; simp only [beq_iff_eq, beq_eq_false_iff_ne, ne_eq, Int.natCast_inj] at h; exact h), if_pos (by omega)] at hsucc
    obtain ⟨f1, f2⟩ := hfin l false hsucc.symm
    exact ⟨⟨rfl, f1⟩, f2⟩
  have h2 : ((i : Int) == (B : Int)) = false := h2
  replace h3 : ltB (IntKind.i64.wrap ((B : Int) - (A : Int))) 50 = false := h3
  rw [wBA, ltB_false] at h3
  have hne : ¬ i = B := by have h := h2; simp only [beq_eq_false_iff_ne, ne_eq, Int.natCast_inj] at h; exact h
  rw [if_neg hne, if_neg (by omega)] at hsucc
  clear h2
  have bi : i < l.length := by omega
  have wiA : IntKind.i64.wrap ((i : Int) - (A : Int)) = ((i - A : Nat) : Int) := w64 (by omega) (by omega)
  have wBi : IntKind.i64.wrap ((B : Int) - (i : Int)) = ((B - i : Nat) : Int) := w64 (by omega) (by omega)
  have hl1 : (swpL l i (i - 1)).length = xs.length := by rw [swpL_len]; exact g2
  obtain ⟨l1, hl1'⟩ : ∃ l1, l1 = swpL l i (i - 1) := ⟨_, rfl⟩
  have ha1 : arr l1 = Go.Sort.swp (arr l) i (i - 1) := by rw [hl1', swpL_arr]
  rw [← hl1'] at hl1
  have hsw : ∀ {x y : D}, (l.set (i : Int).toNat (D.puts u64 x [] (.I (l.getD (IntKind.i64.wrap ((i : Int) - 1)).toNat .Z).int))).set (IntKind.i64.wrap ((i : Int) - 1)).toNat (D.puts u64 y [] (.I (l.getD (i : Int).toNat .Z).int)) = l1 := fun {x y} => by
    rw [hl1']; exact swpG rfl w1
  refine ⟨ixW w1 bu1, ix bi, ix bi, ixS w1 bu1, by kernel_rfl, ?_⟩
  refine ⟨{ l2 : List D // l2.length = xs.length ∧ arr l2 = Go.Sort.fixDown Go.Sort.ltInt A i (arr l1) }, 69, fun l2 => ([(7, .dat i64 (.I i)), (8, .dat i64 (.I j)), (0, .own 0 u64), (1, .dat i64 (.I A)), (2, .dat i64 (.I B))], [(0, .grow u64 l2.1)]), ⟨fun h4 => ?_, fun h4 => ?_⟩, ?_⟩
  · replace h4 : leB 2 (IntKind.i64.wrap ((i : Int) - (A : Int))) = true := h4
    rw [wiA, leB_true] at h4
    have hfd : Go.Sort.fixDown Go.Sort.ltInt A i (arr l1) = Go.Sort.shiftDown Go.Sort.ltInt (i - 1) (arr l1) := by rw [Go.Sort.fixDown, if_pos (by omega)]
    refine ⟨{ x : Nat × List D // x.1 < i ∧ x.2.length = xs.length ∧ Go.Sort.shiftDown Go.Sort.ltInt x.1 (arr x.2) = Go.Sort.fixDown Go.Sort.ltInt A i (arr l1) }, 69, fun x => ([(9, .dat i64 (.I x.1.1)), (7, .dat i64 (.I i)), (8, .dat i64 (.I j)), (0, .own 0 u64), (1, .dat i64 (.I A)), (2, .dat i64 (.I B))], [(0, .grow u64 x.1.2)]), fun x => x.1.1,
      ⟨(i - 1, l1), by show i - 1 < i; omega, hl1, hfd.symm⟩, ⟨[], rfl, ⟨slot w1, rfl, rfl, rfl, rfl, rfl, trivial⟩, ⟨gro hsw, trivial⟩⟩, ?_⟩
    intro x
    obtain ⟨⟨k, m⟩, j1, j2, j3⟩ := x
    simp only at j1 j2 j3
    refine ⟨fun h5 => ?_, fun h5 => ?_⟩
    · replace h5 : leB 1 (k : Int) = true := h5
      rw [leB_true] at h5
      obtain ⟨k, rfl⟩ : ∃ q, k = q + 1 := ⟨k - 1, by omega⟩
      have wk : IntKind.i64.wrap (((k + 1 : Nat) : Int) - 1) = ((k : Nat) : Int) := w64 (by omega) (by omega)
      have bk : k + 1 < m.length := by omega
      have bk' : k < m.length := by omega
      refine ⟨ix bk, ixW wk bk', by kernel_rfl, fun h6 => ?_, fun h6 => ?_⟩
      · have h6 : (!Go.Sort.ltInt (arr m)[k + 1]! (arr m)[k]!) = true := by rw [← ltE rfl wk]; exact h6
        refine ⟨⟨m, j2, ?_⟩, ⟨[], rfl, ⟨rfl, rfl, rfl, rfl, rfl, trivial⟩, ⟨rfl, trivial⟩⟩⟩
        rw [← j3, Go.Sort.shiftDown, if_pos h6]
      · have h6 : (!Go.Sort.ltInt (arr m)[k + 1]! (arr m)[k]!) = false := by rw [← ltE rfl wk]; exact h6
        refine ⟨ixW wk bk', ix bk, ix bk, ixS wk bk', by kernel_rfl, ⟨(k, swpL m (k + 1) k), by show k < i; omega, by rw [swpL_len]; exact j2, ?_⟩, ⟨[], rfl, ⟨slot wk, rfl, rfl, rfl, rfl, rfl, trivial⟩, ⟨gro (swpG rfl wk), trivial⟩⟩, by show k < k + 1; omega⟩
        rw [swpL_arr, ← j3]
        show _ = Go.Sort.shiftDown Go.Sort.ltInt (k + 1) (arr m)
        rw [Go.Sort.shiftDown, if_neg (by rw [h6]; decide)]
    · replace h5 : leB 1 (k : Int) = false := h5
      rw [leB_false] at h5
      have hk : k = 0 := by omega
      subst hk
      exact ⟨⟨m, j2, j3⟩, ⟨[], rfl, ⟨rfl, rfl, rfl, rfl, rfl, trivial⟩, ⟨rfl, trivial⟩⟩⟩
  · replace h4 : leB 2 (IntKind.i64.wrap ((i : Int) - (A : Int))) = false := h4
    rw [wiA, leB_false] at h4
    exact ⟨⟨l1, hl1, by rw [Go.Sort.fixDown, if_neg (by omega)]⟩, ⟨[], rfl, ⟨rfl, rfl, rfl, rfl, rfl, trivial⟩, ⟨gro hsw, trivial⟩⟩⟩
  intro x
  obtain ⟨l2, hl2, ha2⟩ := x
  rw [← ha1, ← ha2] at hsucc
  refine ⟨fun h4 => ?_, fun h4 => ?_⟩
  · replace h4 : leB 2 (IntKind.i64.wrap ((B : Int) - (i : Int))) = true := h4
    rw [wBi, leB_true] at h4
    have wi1 : IntKind.i64.wrap ((i : Int) + 1) = ((i + 1 : Nat) : Int) := w64 (by omega) (by omega)
    have hfu : Go.Sort.fixUp Go.Sort.ltInt B i (arr l2) = Go.Sort.shiftUp Go.Sort.ltInt B (i + 1) (arr l2) := by rw [Go.Sort.fixUp, if_pos (by omega)]
    have hdone : ∀ m : List D, arr m = Go.Sort.fixUp Go.Sort.ltInt B i (arr l2) → Go.Sort.partialIns Go.Sort.ltInt A B (5 - (j + 1)) i (arr m) = R := fun m e => by rw [hs', e]; exact hsucc.symm
    have wj : IntKind.i64.wrap ((j : Int) + 1) = ((j + 1 : Nat) : Int) := w64 (by omega) (by omega)
    refine ⟨{ x : Nat × List D // i < x.1 ∧ x.1 ≤ B ∧ x.2.length = xs.length ∧ Go.Sort.shiftUp Go.Sort.ltInt B x.1 (arr x.2) = Go.Sort.fixUp Go.Sort.ltInt B i (arr l2) }, 69, fun x => ([(10, .dat i64 (.I x.1.1)), (7, .dat i64 (.I i)), (8, .dat i64 (.I j)), (0, .own 0 u64), (1, .dat i64 (.I A)), (2, .dat i64 (.I B))], [(0, .grow u64 x.1.2)]), fun x => B - x.1.1,
      ⟨(i + 1, l2), by show i < i + 1; omega, by show i + 1 ≤ B; omega, hl2, hfu.symm⟩, ⟨[], rfl, ⟨slot wi1, rfl, rfl, rfl, rfl, rfl, trivial⟩, ⟨rfl, trivial⟩⟩, ?_⟩
    intro x
    obtain ⟨⟨k, m⟩, j1, j1', j2, j3⟩ := x
    simp only at j1 j1' j2 j3
    refine ⟨fun h5 => ?_, fun h5 => ?_⟩
    · have h5 : k < B := ltN h5
      have wk : IntKind.i64.wrap ((k : Int) - 1) = ((k - 1 : Nat) : Int) := w64 (by omega) (by omega)
      have wk1 : IntKind.i64.wrap ((k : Int) + 1) = ((k + 1 : Nat) : Int) := w64 (by omega) (by omega)
      have bk : k < m.length := by omega
      have bk' : k - 1 < m.length := by omega
      refine ⟨ix bk, ixW wk bk', by kernel_rfl, fun h6 => ?_, fun h6 => ?_⟩
      · have h6 : (!Go.Sort.ltInt (arr m)[k]! (arr m)[k - 1]!) = true := by rw [← ltE rfl wk]; exact h6
        refine ⟨⟨((j + 1, i), m), by show j + 1 ≤ 5; omega, by show A < i; omega, u2, j2, hdone m ?_⟩, ⟨[], rfl, ⟨slot wj, rfl, rfl, rfl, rfl, trivial⟩, ⟨rfl, trivial⟩⟩, by show 5 - (j + 1) < 5 - j; omega⟩
        rw [← j3, Go.Sort.shiftUp, if_pos h5, if_pos h6]
      · have h6 : (!Go.Sort.ltInt (arr m)[k]! (arr m)[k - 1]!) = false := by rw [← ltE rfl wk]; exact h6
        refine ⟨ixW wk bk', ix bk, ix bk, ixS wk bk', by kernel_rfl, ⟨(k + 1, swpL m k (k - 1)), by show i < k + 1; omega, by show k + 1 ≤ B; omega, by rw [swpL_len]; exact j2, ?_⟩, ⟨[], rfl, ⟨slot wk1, rfl, rfl, rfl, rfl, rfl, trivial⟩, ⟨gro (swpG rfl wk), trivial⟩⟩, by show B - (k + 1) < B - k; omega⟩
        rw [swpL_arr, ← j3]
        conv => rhs; rw [Go.Sort.shiftUp, if_pos h5, if_neg (by rw [h6]; decide)]
    · replace h5 : ltB (k : Int) (B : Int) = false := h5
      rw [ltB_false] at h5
      refine ⟨⟨((j + 1, i), m), by show j + 1 ≤ 5; omega, by show A < i; omega, u2, j2, hdone m ?_⟩, ⟨[], rfl, ⟨slot wj, rfl, rfl, rfl, rfl, trivial⟩, ⟨rfl, trivial⟩⟩, by show 5 - (j + 1) < 5 - j; omega⟩
      rw [← j3, Go.Sort.shiftUp, if_neg (by omega)]
  · replace h4 : leB 2 (IntKind.i64.wrap ((B : Int) - (i : Int))) = false := h4
    rw [wBi, leB_false] at h4
    have wj : IntKind.i64.wrap ((j : Int) + 1) = ((j + 1 : Nat) : Int) := w64 (by omega) (by omega)
    refine ⟨⟨((j + 1, i), l2), by show j + 1 ≤ 5; omega, by show A < i; omega, u2, hl2, ?_⟩, ⟨[], rfl, ⟨slot wj, rfl, rfl, rfl, rfl, trivial⟩, ⟨rfl, trivial⟩⟩, by show 5 - (j + 1) < 5 - j; omega⟩
    show Go.Sort.partialIns Go.Sort.ltInt A B (5 - (j + 1)) i (arr l2) = R
    rw [hs', hsucc, Go.Sort.fixUp, if_neg (by omega)]
end Go.Proofs.Ytmcgebhffdedpaa
