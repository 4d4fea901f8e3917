/- Accounts of the library's sort of labels: partitions. -/
import Derived.Test.YtmcgebhffdedpaaWZc
namespace Go.Proofs.Ytmcgebhffdedpaa
open Go Go.Vm
set_option linter.unusedSimpArgs false
set_option linter.unusedVariables false
set_option maxRecDepth 10000
theorem leN {i j : Nat} (h : leB (i : Int) (j : Int) = true) : i ≤ j := by simp only [leB_true] at h; omega
theorem up_go {p : Int → Bool} {d : Array Int} {i j : Nat} (h : i ≤ j) (hp : p d[i]! = true) : Go.Sort.scanUp p d j (i + 1) = Go.Sort.scanUp p d j i := by
  conv => rhs; rw [Go.Sort.scanUp, if_pos (by rw [hp, Bool.and_true]; simpa using h)]
theorem up_stop {p : Int → Bool} {d : Array Int} {i j : Nat} (h : (decide (i ≤ j) && p d[i]!) = false) : Go.Sort.scanUp p d j i = i := by
  rw [Go.Sort.scanUp, if_neg (by rw [h]; decide)]
theorem dn_go {p : Int → Bool} {d : Array Int} {i j : Nat} (h : i ≤ j + 1) (hp : p d[j + 1]! = true) : Go.Sort.scanDown p d i j = Go.Sort.scanDown p d i (j + 1) := by
  conv => rhs; rw [Go.Sort.scanDown, if_pos (by rw [hp, Bool.and_true]; simpa using h)]
theorem dn_stop {p : Int → Bool} {d : Array Int} {i : Nat} : ∀ {j : Nat}, (decide (i ≤ j) && p d[j]!) = false → Go.Sort.scanDown p d i j = j
  | 0, _ => rfl
  | j + 1, h => by rw [Go.Sort.scanDown, if_neg (by rw [h]; decide)]
theorem leD (i j : Nat) : leB (i : Int) (j : Int) = decide (i ≤ j) := by
  rw [Bool.eq_iff_iff, leB_true, decide_eq_true_eq]; omega
theorem ne_ltE {l : List D} {i j : Nat} : (!ltB (l.getD i .Z).int (l.getD j .Z).int) = !Go.Sort.ltInt (arr l)[i]! (arr l)[j]! := by rw [lt_arr]
def mCut (f : Array Int → Nat → Nat → Nat → Array Int) (r : Array Int → Nat → Nat → Nat → HV) : MSum := ⟨u64, [.dat i64, .dat i64, .dat i64], fun xs ds => match ds with
  | [a, b, p] => some (0 ≤ a.int ∧ a.int ≤ p.int ∧ p.int < b.int ∧ b.int ≤ xs.length ∧ xs.length ≤ 1000000)
  | _ => some False, fun xs ds => match ds with
  | [a, b, p] => r (arr xs) (natD a) (natD b) (natD p)
  | _ => .und, fun xs ds => match ds with
  | [a, b, p] => unarr (f (arr xs) (natD a) (natD b) (natD p))
  | _ => xs⟩
def mPeq : MSum := mCut (fun d a b p => (Go.Sort.partitionEqual Go.Sort.ltInt d a b p).2) fun d a b p => .dat i64 (.I (Go.Sort.partitionEqual Go.Sort.ltInt d a b p).1)
def mPart : MSum := mCut (fun d a b p => (Go.Sort.partition Go.Sort.ltInt d a b p).2.2) fun d a b p => .tup [.dat i64 (.I (Go.Sort.partition Go.Sort.ltInt d a b p).1), .dat .bool (.B (Go.Sort.partition Go.Sort.ltInt d a b p).2.1)]
set_option maxHeartbeats 4000000 in
theorem peq_fun : FunMOK cZ 100 Try.f52 mPeq := fun xs hx a ha b hb p hp h => by
  replace h : 0 ≤ a.int ∧ a.int ≤ p.int ∧ p.int < b.int ∧ b.int ≤ xs.length ∧ xs.length ≤ 1000000 := h
  obtain ⟨k1, k2, k3, k4, k5⟩ := h
  obtain ⟨A, hA, hA'⟩ := natD_of (a := a) (by omega)
  obtain ⟨B, hB, hB'⟩ := natD_of (a := b) (by omega)
  obtain ⟨P, hP, hP'⟩ := natD_of (a := p) (by omega)
  have bA : A < xs.length := by omega
  have bP : P < xs.length := by omega
  have wA : IntKind.i64.wrap (a.int + 1) = ((A + 1 : Nat) : Int) := w64 (by omega) (by omega)
  have wB : IntKind.i64.wrap (b.int - 1) = ((B - 1 : Nat) : Int) := w64 (by omega) (by omega)
  have hfin : ∀ (l : List D) (u : Nat), (u, arr l) = Go.Sort.partEqLoop Go.Sort.ltInt A (A + 1) (B - 1) (Go.Sort.swp (arr xs) A P) → BearsL u64 l (mPeq.out xs [a, b, p]) ∧ Bears i64 (.I u) (.I (Go.Sort.partitionEqual Go.Sort.ltInt (arr xs) (natD a) (natD b) (natD p)).1) := fun l u e => by
    constructor
    · show BearsL u64 l (unarr (Go.Sort.partitionEqual Go.Sort.ltInt (arr xs) (natD a) (natD b) (natD p)).2)
      rw [hA', hB', hP']; exact bearsA (congrArg Prod.snd e)
    · rw [hA', hB', hP']; exact Bears.int (congrArg (fun r => (r.1 : Int)) e)
  refine ⟨ixW hP bP, ixW hA bA, ixW hA bA, ixS hP bP, by kernel_rfl, ?_⟩
  refine ⟨{ x : (Nat × Nat) × List D // A < x.1.1 ∧ x.1.1 ≤ x.1.2 + 1 ∧ x.1.2 < B ∧ x.2.length = xs.length ∧ Go.Sort.partEqLoop Go.Sort.ltInt A x.1.1 x.1.2 (arr x.2) = Go.Sort.partEqLoop Go.Sort.ltInt A (A + 1) (B - 1) (Go.Sort.swp (arr xs) A P) }, 33,
    fun x => ([(9, .dat i64 (.I x.1.1.1)), (10, .dat i64 (.I x.1.1.2)), (0, .own 0 u64), (1, .dat i64 (.I A))], [(0, .grow u64 x.1.2)]), fun x => x.1.1.2 + 1 - x.1.1.1,
    ⟨((A + 1, B - 1), swpL xs A P), by show A < A + 1; omega, by show A + 1 ≤ B - 1 + 1; omega, by show B - 1 < B; omega, swpL_len _ _ _, by rw [swpL_arr]⟩, ⟨[], rfl, ⟨slot wA, slot wB, rfl, slot hA, trivial⟩, ⟨gro (swpG hA hP), trivial⟩⟩, ?_⟩
  intro x
  obtain ⟨⟨⟨i, j⟩, l⟩, g0, g1, g1', g2, g3⟩ := x
  simp only at g0 g1 g1' g2 g3
  have bA : A < l.length := by omega
  refine ⟨{ u : Nat // i ≤ u ∧ u ≤ j + 1 ∧ Go.Sort.scanUp (fun x => !Go.Sort.ltInt (arr l)[A]! x) (arr l) j u = Go.Sort.scanUp (fun x => !Go.Sort.ltInt (arr l)[A]! x) (arr l) j (i) }, 33, fun u => ([(9, .dat i64 (.I u.1)), (10, .dat i64 (.I j)), (0, .own 0 u64), (1, .dat i64 (.I A))], [(0, .grow u64 l)]), fun u => j + 1 - u.1,
    ⟨i, by omega, by omega, rfl⟩, ⟨[], rfl, ⟨rfl, rfl, rfl, rfl, trivial⟩, ⟨rfl, trivial⟩⟩, ?_⟩
  intro u
  obtain ⟨u, u1, u2, u3⟩ := u
  have bu : u ≤ j → u < l.length := fun h => by omega
  refine ⟨fun hk => ix bA, fun hk => ix (bu (leN (keyOne hk))), by kernel_rfl, fun h1 => ?_, fun h1 => ?_⟩
  · have h2 : (decide (u ≤ j) && !Go.Sort.ltInt (arr l)[A]! (arr l)[u]!) = true := by rw [← leD, ← lt_arr]; exact h1
    simp only [Bool.and_eq_true, decide_eq_true_eq] at h2
    have wu : IntKind.i64.wrap ((u : Int) + 1) = ((u + 1 : Nat) : Int) := w64 (by omega) (by omega)
    exact ⟨⟨u + 1, by omega, by omega, (up_go (p := fun x => !Go.Sort.ltInt (arr l)[A]! x) h2.1 h2.2).trans u3⟩, ⟨[], rfl, ⟨slot wu, rfl, rfl, rfl, trivial⟩, ⟨rfl, trivial⟩⟩, by show j + 1 - (u + 1) < j + 1 - u; omega⟩
  have hs : (decide (u ≤ j) && !Go.Sort.ltInt (arr l)[A]! (arr l)[u]!) = false := by rw [← leD, ← lt_arr]; exact h1
  have hu := (up_stop (p := fun x => !Go.Sort.ltInt (arr l)[A]! x) hs).symm.trans u3
  have hsu := hs
  clear h1 hs
  refine ⟨{ v : Nat // v ≤ j ∧ u ≤ v + 1 ∧ Go.Sort.scanDown (fun x => Go.Sort.ltInt (arr l)[A]! x) (arr l) u v = Go.Sort.scanDown (fun x => Go.Sort.ltInt (arr l)[A]! x) (arr l) u j }, 63, fun v => ([(9, .dat i64 (.I u)), (10, .dat i64 (.I v.1)), (0, .own 0 u64), (1, .dat i64 (.I A))], [(0, .grow u64 l)]), fun v => v.1,
    ⟨j, by omega, by omega, rfl⟩, ⟨[], rfl, ⟨rfl, rfl, rfl, rfl, trivial⟩, ⟨rfl, trivial⟩⟩, ?_⟩
  intro v
  obtain ⟨v, v1, v2, v3⟩ := v
  have bv : v < l.length := by omega
  refine ⟨fun hk => ix bA, fun hk => ix bv, by kernel_rfl, fun h1 => ?_, fun h1 => ?_⟩
  · have h2 : (decide (u ≤ v) && Go.Sort.ltInt (arr l)[A]! (arr l)[v]!) = true := by rw [← leD, ← lt_arr]; exact h1
    simp only [Bool.and_eq_true, decide_eq_true_eq] at h2
    obtain ⟨v, rfl⟩ : ∃ m, v = m + 1 := ⟨v - 1, by omega⟩
    have wv : IntKind.i64.wrap (((v + 1 : Nat) : Int) - 1) = ((v : Nat) : Int) := w64 (by omega) (by omega)
    exact ⟨⟨v, by omega, by omega, (dn_go (p := fun x => Go.Sort.ltInt (arr l)[A]! x) h2.1 h2.2).trans v3⟩, ⟨[], rfl, ⟨rfl, slot wv, rfl, rfl, trivial⟩, ⟨rfl, trivial⟩⟩, by show v < v + 1; omega⟩
  have hs : (decide (u ≤ v) && Go.Sort.ltInt (arr l)[A]! (arr l)[v]!) = false := by rw [← leD, ← lt_arr]; exact h1
  have hv := (dn_stop (p := fun x => Go.Sort.ltInt (arr l)[A]! x) hs).symm.trans v3
  have huv : u ≤ v → u < v := fun h => by
    rcases Nat.lt_or_eq_of_le h with h | h
    · exact h
    subst h
    rw [decide_eq_true (show u ≤ j by omega), Bool.true_and] at hsu
    rw [decide_eq_true (Nat.le_refl u), Bool.true_and] at hs
    first
      | (rw [hs] at hsu; exact absurd hsu (by decide))
      | (rw [hsu] at hs; exact absurd hs (by decide))
  clear h1 hs hsu
  have heq := Go.Sort.partEqLoop_eq Go.Sort.ltInt A i j (arr l)
  rw [← hu, ← hv] at heq
  refine ⟨fun h1 => ?_, fun h1 => ?_⟩
  · have h1 : u > v := ltN h1
    rw [if_pos h1, g3] at heq
    obtain ⟨f1, f2⟩ := hfin l u heq.symm
    exact ⟨⟨rfl, f1⟩, f2⟩
  · replace h1 : ltB (v : Int) (u : Int) = false := h1
    rw [ltB_false] at h1
    rw [if_neg (by omega), g3] at heq
    have bu' : u < l.length := bu (by omega)
    have huv := huv (by omega)
    have wu : IntKind.i64.wrap ((u : Int) + 1) = ((u + 1 : Nat) : Int) := w64 (by omega) (by omega)
    have wv : IntKind.i64.wrap ((v : Int) - 1) = ((v - 1 : Nat) : Int) := w64 (by omega) (by omega)
    refine ⟨ix bv, ix bu', ix bu', ixS rfl bv, by kernel_rfl, ⟨((u + 1, v - 1), swpL l u v), by show A < u + 1; omega, by show u + 1 ≤ v - 1 + 1; omega, by show v - 1 < B; omega, by rw [swpL_len]; exact g2, by rw [swpL_arr]; exact heq.symm⟩,
      ⟨[], rfl, ⟨slot wu, slot wv, rfl, rfl, trivial⟩, ⟨gro (swpG rfl rfl), trivial⟩⟩, ?_⟩
    show v - 1 + 1 - (u + 1) < j + 1 - i
    omega
set_option maxHeartbeats 4000000 in
theorem part_fun : FunMOK cZ 100 Try.f53 mPart := fun xs hx a ha b hb p hp h => by
  replace h : 0 ≤ a.int ∧ a.int ≤ p.int ∧ p.int < b.int ∧ b.int ≤ xs.length ∧ xs.length ≤ 1000000 := h
  obtain ⟨k1, k2, k3, k4, k5⟩ := h
  obtain ⟨A, hA, hA'⟩ := natD_of (a := a) (by omega)
  obtain ⟨B, hB, hB'⟩ := natD_of (a := b) (by omega)
  obtain ⟨P, hP, hP'⟩ := natD_of (a := p) (by omega)
  have bA : A < xs.length := by omega
  have bP : P < xs.length := by omega
  have wA : IntKind.i64.wrap (a.int + 1) = ((A + 1 : Nat) : Int) := w64 (by omega) (by omega)
  have wB : IntKind.i64.wrap (b.int - 1) = ((B - 1 : Nat) : Int) := w64 (by omega) (by omega)
  have hfin : ∀ (l : List D) (u : Nat) (f : Bool), (u, f, arr l) = Go.Sort.partition Go.Sort.ltInt (arr xs) A B P → BearsL u64 l (mPart.out xs [a, b, p]) ∧ Bears i64 (.I u) (.I (Go.Sort.partition Go.Sort.ltInt (arr xs) (natD a) (natD b) (natD p)).1) ∧ Bears .bool (.B f) (.B (Go.Sort.partition Go.Sort.ltInt (arr xs) (natD a) (natD b) (natD p)).2.1) := fun l u f e => by
    refine ⟨?_, ?_, ?_⟩
    · show BearsL u64 l (unarr (Go.Sort.partition Go.Sort.ltInt (arr xs) (natD a) (natD b) (natD p)).2.2)
      rw [hA', hB', hP']; exact bearsA (congrArg (fun r => r.2.2) e)
    · rw [hA', hB', hP']; exact Bears.int (congrArg (fun r => (r.1 : Int)) e)
    · rw [hA', hB', hP']; exact Bears.bool (congrArg (fun r => r.2.1) e)
  refine ⟨ixW hP bP, ixW hA bA, ixW hA bA, ixS hP bP, by kernel_rfl, ?_⟩
  obtain ⟨l, hl⟩ : ∃ l, l = swpL xs A P := ⟨_, rfl⟩
  have hll : l.length = xs.length := by rw [hl, swpL_len]
  have hla : arr l = Go.Sort.swp (arr xs) A P := by rw [hl, swpL_arr]
  obtain ⟨j, hj⟩ : ∃ j, j = B - 1 := ⟨_, rfl⟩
  have hbA := bA
  rw [← hll] at bA
  have wB' : IntKind.i64.wrap (b.int - 1) = (j : Int) := by rw [hj]; exact wB
  refine ⟨{ u : Nat // A + 1 ≤ u ∧ u ≤ j + 1 ∧ Go.Sort.scanUp (fun x => Go.Sort.ltInt x (arr l)[A]!) (arr l) j u = Go.Sort.scanUp (fun x => Go.Sort.ltInt x (arr l)[A]!) (arr l) j (A + 1) }, 33, fun u => ([(10, .dat i64 (.I u.1)), (11, .dat i64 (.I j)), (0, .own 0 u64), (1, .dat i64 (.I A))], [(0, .grow u64 l)]), fun u => j + 1 - u.1,
    ⟨A + 1, by omega, by omega, rfl⟩, ⟨[], rfl, ⟨slot wA, slot wB', rfl, slot hA, trivial⟩, ⟨gro ((swpG hA hP).trans hl.symm), trivial⟩⟩, ?_⟩
  intro u
  obtain ⟨u, u1, u2, u3⟩ := u
  have bu : u ≤ j → u < l.length := fun h => by omega
  refine ⟨fun hk => ix (bu (leN (keyOne hk))), fun hk => ix bA, by kernel_rfl, fun h1 => ?_, fun h1 => ?_⟩
  · have h2 : (decide (u ≤ j) && Go.Sort.ltInt (arr l)[u]! (arr l)[A]!) = true := by rw [← leD, ← lt_arr]; exact h1
    simp only [Bool.and_eq_true, decide_eq_true_eq] at h2
    have wu : IntKind.i64.wrap ((u : Int) + 1) = ((u + 1 : Nat) : Int) := w64 (by omega) (by omega)
    exact ⟨⟨u + 1, by omega, by omega, (up_go (p := fun x => Go.Sort.ltInt x (arr l)[A]!) h2.1 h2.2).trans u3⟩, ⟨[], rfl, ⟨slot wu, rfl, rfl, rfl, trivial⟩, ⟨rfl, trivial⟩⟩, by show j + 1 - (u + 1) < j + 1 - u; omega⟩
  have hs : (decide (u ≤ j) && Go.Sort.ltInt (arr l)[u]! (arr l)[A]!) = false := by rw [← leD, ← lt_arr]; exact h1
  have hu := (up_stop (p := fun x => Go.Sort.ltInt x (arr l)[A]!) hs).symm.trans u3
  have hsu := hs
  clear h1 hs
  refine ⟨{ v : Nat // v ≤ j ∧ u ≤ v + 1 ∧ Go.Sort.scanDown (fun x => !Go.Sort.ltInt x (arr l)[A]!) (arr l) u v = Go.Sort.scanDown (fun x => !Go.Sort.ltInt x (arr l)[A]!) (arr l) u j }, 61, fun v => ([(10, .dat i64 (.I u)), (11, .dat i64 (.I v.1)), (0, .own 0 u64), (1, .dat i64 (.I A))], [(0, .grow u64 l)]), fun v => v.1,
    ⟨j, by omega, by omega, rfl⟩, ⟨[], rfl, ⟨rfl, rfl, rfl, rfl, trivial⟩, ⟨rfl, trivial⟩⟩, ?_⟩
  intro v
  obtain ⟨v, v1, v2, v3⟩ := v
  have bv : v < l.length := by omega
  refine ⟨fun hk => ix bv, fun hk => ix bA, by kernel_rfl, fun h1 => ?_, fun h1 => ?_⟩
  · have h2 : (decide (u ≤ v) && !Go.Sort.ltInt (arr l)[v]! (arr l)[A]!) = true := by rw [← leD, ← lt_arr]; exact h1
    simp only [Bool.and_eq_true, decide_eq_true_eq] at h2
    obtain ⟨v, rfl⟩ : ∃ m, v = m + 1 := ⟨v - 1, by omega⟩
    have wv : IntKind.i64.wrap (((v + 1 : Nat) : Int) - 1) = ((v : Nat) : Int) := w64 (by omega) (by omega)
    exact ⟨⟨v, by omega, by omega, (dn_go (p := fun x => !Go.Sort.ltInt x (arr l)[A]!) h2.1 h2.2).trans v3⟩, ⟨[], rfl, ⟨rfl, slot wv, rfl, rfl, trivial⟩, ⟨rfl, trivial⟩⟩, by show v < v + 1; omega⟩
  have hs : (decide (u ≤ v) && !Go.Sort.ltInt (arr l)[v]! (arr l)[A]!) = false := by rw [← leD, ← lt_arr]; exact h1
  have hv := (dn_stop (p := fun x => !Go.Sort.ltInt x (arr l)[A]!) hs).symm.trans v3
  have huv : u ≤ v → u < v := fun h => by
    rcases Nat.lt_or_eq_of_le h with h | h
    · exact h
    subst h
    rw [decide_eq_true (show u ≤ j by omega), Bool.true_and] at hsu
    rw [decide_eq_true (Nat.le_refl u), Bool.true_and] at hs
    first
      | (rw [hs] at hsu; exact absurd hsu (by decide))
      | (rw [hsu] at hs; exact absurd hs (by decide))
  clear h1 hs hsu
  have hpd : Go.Sort.partition Go.Sort.ltInt (arr xs) A B P = if u > v then (v, true, Go.Sort.swp (arr l) v A) else
      ((Go.Sort.partLoop Go.Sort.ltInt A (u + 1) (v - 1) (Go.Sort.swp (arr l) u v)).1, false, Go.Sort.swp (Go.Sort.partLoop Go.Sort.ltInt A (u + 1) (v - 1) (Go.Sort.swp (arr l) u v)).2 (Go.Sort.partLoop Go.Sort.ltInt A (u + 1) (v - 1) (Go.Sort.swp (arr l) u v)).1 A) := by
    rw [Go.Sort.partition, ← hla]
    simp only [← hj, ← hu, ← hv]
  refine ⟨fun h1 => ?_, fun h1 => ?_⟩
  · have h1 : u > v := ltN h1
    rw [if_pos h1] at hpd
    obtain ⟨f1, f2, f3⟩ := hfin (swpL l v A) v true (by rw [hpd, swpL_arr])
    refine ⟨ix bA, ix bv, ix bv, ixS rfl bA, by kernel_rfl, ⟨rfl, ?_⟩, f2, f3, trivial⟩
    exact (swpG (i := v) (j := A) rfl rfl) ▸ f1
  replace h1 : ltB (v : Int) (u : Int) = false := h1
  rw [ltB_false] at h1
  rw [if_neg (by omega)] at hpd
  have huv := huv (by omega)
  have bu' : u < l.length := bu (by omega)
  have wu : IntKind.i64.wrap ((u : Int) + 1) = ((u + 1 : Nat) : Int) := w64 (by omega) (by omega)
  have wv : IntKind.i64.wrap ((v : Int) - 1) = ((v - 1 : Nat) : Int) := w64 (by omega) (by omega)
  refine ⟨ix bv, ix bu', ix bu', ixS rfl bv, by kernel_rfl, ?_⟩
  obtain ⟨R, hR⟩ : ∃ R, R = Go.Sort.partLoop Go.Sort.ltInt A (u + 1) (v - 1) (Go.Sort.swp (arr l) u v) := ⟨_, rfl⟩
  rw [← hR] at hpd
  refine ⟨{ x : (Nat × Nat) × List D // A < x.1.1 ∧ x.1.1 ≤ x.1.2 + 1 ∧ x.1.2 < B ∧ x.2.length = xs.length ∧ Go.Sort.partLoop Go.Sort.ltInt A x.1.1 x.1.2 (arr x.2) = R }, 123,
    fun x => ([(10, .dat i64 (.I x.1.1.1)), (11, .dat i64 (.I x.1.1.2)), (0, .own 0 u64), (1, .dat i64 (.I A))], [(0, .grow u64 x.1.2)]), fun x => x.1.1.2 + 1 - x.1.1.1,
    ⟨((u + 1, v - 1), swpL l u v), by show A < u + 1; omega, by show u + 1 ≤ v - 1 + 1; omega, by show v - 1 < B; omega, by rw [swpL_len]; exact hll, by rw [swpL_arr]; exact hR.symm⟩, ⟨[], rfl, ⟨slot wu, slot wv, rfl, rfl, trivial⟩, ⟨gro (swpG rfl rfl), trivial⟩⟩, ?_⟩
  clear hR hu hv u3 v3 hla hl
  intro x
  obtain ⟨⟨⟨i, j⟩, l⟩, g0, g1, g1', g2, g3⟩ := x
  simp only at g0 g1 g1' g2 g3
  have bA : A < l.length := by omega
  refine ⟨{ u : Nat // i ≤ u ∧ u ≤ j + 1 ∧ Go.Sort.scanUp (fun x => Go.Sort.ltInt x (arr l)[A]!) (arr l) j u = Go.Sort.scanUp (fun x => Go.Sort.ltInt x (arr l)[A]!) (arr l) j (i) }, 123, fun u => ([(10, .dat i64 (.I u.1)), (11, .dat i64 (.I j)), (0, .own 0 u64), (1, .dat i64 (.I A))], [(0, .grow u64 l)]), fun u => j + 1 - u.1,
    ⟨i, by omega, by omega, rfl⟩, ⟨[], rfl, ⟨rfl, rfl, rfl, rfl, trivial⟩, ⟨rfl, trivial⟩⟩, ?_⟩
  intro u
  obtain ⟨u, u1, u2, u3⟩ := u
  have bu : u ≤ j → u < l.length := fun h => by omega
  refine ⟨fun hk => ix (bu (leN (keyOne hk))), fun hk => ix bA, by kernel_rfl, fun h1 => ?_, fun h1 => ?_⟩
  · have h2 : (decide (u ≤ j) && Go.Sort.ltInt (arr l)[u]! (arr l)[A]!) = true := by rw [← leD, ← lt_arr]; exact h1
    simp only [Bool.and_eq_true, decide_eq_true_eq] at h2
    have wu : IntKind.i64.wrap ((u : Int) + 1) = ((u + 1 : Nat) : Int) := w64 (by omega) (by omega)
    exact ⟨⟨u + 1, by omega, by omega, (up_go (p := fun x => Go.Sort.ltInt x (arr l)[A]!) h2.1 h2.2).trans u3⟩, ⟨[], rfl, ⟨slot wu, rfl, rfl, rfl, trivial⟩, ⟨rfl, trivial⟩⟩, by show j + 1 - (u + 1) < j + 1 - u; omega⟩
  have hs : (decide (u ≤ j) && Go.Sort.ltInt (arr l)[u]! (arr l)[A]!) = false := by rw [← leD, ← lt_arr]; exact h1
  have hu := (up_stop (p := fun x => Go.Sort.ltInt x (arr l)[A]!) hs).symm.trans u3
  have hsu := hs
  clear h1 hs
  refine ⟨{ v : Nat // v ≤ j ∧ u ≤ v + 1 ∧ Go.Sort.scanDown (fun x => !Go.Sort.ltInt x (arr l)[A]!) (arr l) u v = Go.Sort.scanDown (fun x => !Go.Sort.ltInt x (arr l)[A]!) (arr l) u j }, 151, fun v => ([(10, .dat i64 (.I u)), (11, .dat i64 (.I v.1)), (0, .own 0 u64), (1, .dat i64 (.I A))], [(0, .grow u64 l)]), fun v => v.1,
    ⟨j, by omega, by omega, rfl⟩, ⟨[], rfl, ⟨rfl, rfl, rfl, rfl, trivial⟩, ⟨rfl, trivial⟩⟩, ?_⟩
  intro v
  obtain ⟨v, v1, v2, v3⟩ := v
  have bv : v < l.length := by omega
  refine ⟨fun hk => ix bv, fun hk => ix bA, by kernel_rfl, fun h1 => ?_, fun h1 => ?_⟩
  · have h2 : (decide (u ≤ v) && !Go.Sort.ltInt (arr l)[v]! (arr l)[A]!) = true := by rw [← leD, ← lt_arr]; exact h1
    simp only [Bool.and_eq_true, decide_eq_true_eq] at h2
    obtain ⟨v, rfl⟩ : ∃ m, v = m + 1 := ⟨v - 1, by omega⟩
    have wv : IntKind.i64.wrap (((v + 1 : Nat) : Int) - 1) = ((v : Nat) : Int) := w64 (by omega) (by omega)
    exact ⟨⟨v, by omega, by omega, (dn_go (p := fun x => !Go.Sort.ltInt x (arr l)[A]!) h2.1 h2.2).trans v3⟩, ⟨[], rfl, ⟨rfl, slot wv, rfl, rfl, trivial⟩, ⟨rfl, trivial⟩⟩, by show v < v + 1; omega⟩
  have hs : (decide (u ≤ v) && !Go.Sort.ltInt (arr l)[v]! (arr l)[A]!) = false := by rw [← leD, ← lt_arr]; exact h1
  have hv := (dn_stop (p := fun x => !Go.Sort.ltInt x (arr l)[A]!) hs).symm.trans v3
  have huv : u ≤ v → u < v := fun h => by
    rcases Nat.lt_or_eq_of_le h with h | h
    · exact h
    subst h
    rw [decide_eq_true (show u ≤ j by omega), Bool.true_and] at hsu
    rw [decide_eq_true (Nat.le_refl u), Bool.true_and] at hs
    first
      | (rw [hs] at hsu; exact absurd hsu (by decide))
      | (rw [hsu] at hs; exact absurd hs (by decide))
  clear h1 hs hsu
  have heq := Go.Sort.partLoop_eq Go.Sort.ltInt A i j (arr l)
  rw [← hu, ← hv] at heq
  refine ⟨fun h1 => ?_, fun h1 => ?_⟩
  · have h1 : u > v := ltN h1
    rw [if_pos h1, g3] at heq
    obtain ⟨f1, f2, f3⟩ := hfin (swpL l v A) v false (by rw [hpd, swpL_arr, heq])
    refine ⟨ix bA, ix bv, ix bv, ixS rfl bA, by kernel_rfl, ⟨rfl, ?_⟩, f2, f3, trivial⟩
    exact (swpG (i := v) (j := A) rfl rfl) ▸ f1
  · replace h1 : ltB (v : Int) (u : Int) = false := h1
    rw [ltB_false] at h1
    rw [if_neg (by omega), g3] at heq
    have bu' : u < l.length := bu (by omega)
    have huv := huv (by omega)
    have wu : IntKind.i64.wrap ((u : Int) + 1) = ((u + 1 : Nat) : Int) := w64 (by omega) (by omega)
    have wv : IntKind.i64.wrap ((v : Int) - 1) = ((v - 1 : Nat) : Int) := w64 (by omega) (by omega)
    refine ⟨ix bv, ix bu', ix bu', ixS rfl bv, by kernel_rfl, ⟨((u + 1, v - 1), swpL l u v), by show A < u + 1; omega, by show u + 1 ≤ v - 1 + 1; omega, by show v - 1 < B; omega, by rw [swpL_len]; exact g2, by rw [swpL_arr]; exact heq.symm⟩,
      ⟨[], rfl, ⟨slot wu, slot wv, rfl, rfl, trivial⟩, ⟨gro (swpG rfl rfl), trivial⟩⟩, ?_⟩
    show v - 1 + 1 - (u + 1) < j + 1 - i
    omega
end Go.Proofs.Ytmcgebhffdedpaa
