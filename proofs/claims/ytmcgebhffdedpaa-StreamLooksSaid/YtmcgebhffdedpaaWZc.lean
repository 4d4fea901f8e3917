/- Accounts of the library's sort of labels: heaps, medians, the pivot. -/
import Derived.Test.YtmcgebhffdedpaaWZb
namespace Go.Proofs.Ytmcgebhffdedpaa
open Go Go.Vm
set_option linter.unusedSimpArgs false
set_option linter.unusedVariables false
set_option maxRecDepth 10000
theorem sift_out {l : List D} {lo hi f : Int} {a b c : Nat} (ha : lo = a) (hb : hi = b) (hc : f = c) : mSift.out l [.I lo, .I hi, .I f] = unarr (Go.Sort.siftDown Go.Sort.ltInt b c a (arr l)) := by
  subst ha; subst hb; subst hc; rfl
theorem sift_pre {l m : List D} {lo hi f : Int} (e : l.length = m.length) (h : 0 ≤ lo ∧ 0 ≤ hi ∧ 0 ≤ f ∧ f + hi ≤ m.length ∧ lo ≤ 1000000 ∧ m.length ≤ 1000000) : holds (mSift.pre l [.I lo, .I hi, .I f]) := by
  show 0 ≤ lo ∧ 0 ≤ hi ∧ 0 ≤ f ∧ f + hi ≤ (l.length : Int) ∧ lo ≤ 1000000 ∧ l.length ≤ 1000000
  rw [e]; exact h
theorem sift_size (hi F r : Nat) (d : Array Int) : (Go.Sort.siftDown Go.Sort.ltInt hi F r d).size = d.size := by
  fun_induction Go.Sort.siftDown Go.Sort.ltInt hi F r d <;> simp_all [Go.Sort.size_swp]
noncomputable def cHp : Ctx := ⟨tabS, [], [(51, sLess)], [], keep, [(56 + 1000000, .msum mSift)]⟩
theorem heap_fun : FunMOK cHp 100 Try.f46 mHeap := fun xs hx a ha b hb h => by
  replace h : 0 ≤ a.int ∧ 0 ≤ b.int ∧ (a.int.toNat ≤ b.int.toNat ∧ b.int.toNat ≤ xs.length) ∧ xs.length ≤ 1000000 := h
  obtain ⟨h1, h2, h3, h4⟩ := h
  obtain ⟨A, hA, hA'⟩ := natOf h1
  obtain ⟨B, hB, hB'⟩ := natOf h2
  rw [hA', hB'] at h3
  have hfin : ∀ l : List D, arr l = Go.Sort.heapSort Go.Sort.ltInt (arr xs) A B → BearsL u64 l (mHeap.out xs [a, b]) := fun l e => by
    show BearsL u64 l (unarr (Go.Sort.heapSort Go.Sort.ltInt (arr xs) a.int.toNat b.int.toNat))
    rw [hA', hB']; exact bearsA e
  obtain ⟨n, hn⟩ : ∃ n, n = B - A := ⟨_, rfl⟩
  have wn : IntKind.i64.wrap (b.int - a.int) = (n : Int) := w64 (by omega) (by omega)
  have wn1 : IntKind.i64.wrap ((n : Int) - 1) = (n : Int) - 1 := wrap_i64 (by omega) (by omega)
  have wh : IntKind.i64.wrap ((IntKind.i64.wrap (IntKind.i64.wrap (b.int - a.int) - 1)).tdiv 2) = (((n - 1) / 2 + 1 : Nat) : Int) - 1 := by
    rw [wn, wn1]
    have : ((n : Int) - 1).tdiv 2 = (((n - 1) / 2 + 1 : Nat) : Int) - 1 := by
      rcases Nat.eq_zero_or_pos n with e | e
      · subst e; decide
      · obtain ⟨m, rfl⟩ : ∃ m, n = m + 1 := ⟨n - 1, by omega⟩
        have e1 : ((m + 1 : Nat) : Int) - 1 = (m : Int) := by omega
        rw [e1, Int.tdiv_eq_ediv_of_nonneg (by omega)]
        simp only [Nat.add_sub_cancel]
        omega
    rw [this]; exact wrap_i64 (by omega) (by omega)
  refine ⟨ne0 rfl, ?_⟩
  refine ⟨{ x : Nat × List D // x.1 ≤ n + 1 ∧ (x.1 ≤ n ∨ n = 0) ∧ x.2.length = xs.length ∧ Go.Sort.heapBuild Go.Sort.ltInt n A x.1 (arr x.2) = Go.Sort.heapBuild Go.Sort.ltInt n A ((n - 1) / 2 + 1) (arr xs) }, 1,
    fun x => ([(9, .dat i64 (.I ((x.1.1 : Int) - 1))), (6, .dat i64 (.I A)), (7, .dat i64 (.I 0)), (8, .dat i64 (.I n)), (0, .own 0 u64)], [(0, .grow u64 x.1.2)]), fun x => x.1.1,
    ⟨((n - 1) / 2 + 1, xs), by show (n - 1) / 2 + 1 ≤ n + 1; omega, by show (n - 1) / 2 + 1 ≤ n ∨ n = 0; omega, rfl, rfl⟩, ⟨[], rfl, ⟨slot wh, slot hA, rfl, slot wn, rfl, trivial⟩, ⟨rfl, trivial⟩⟩, ?_⟩
  intro x
  obtain ⟨⟨k, l⟩, g1, g1', g2, g3⟩ := x
  simp only at g1 g1' g2 g3
  refine ⟨fun h5 => ?_, fun h5 => ?_⟩
  · replace h5 : leB 0 ((k : Int) - 1) = true := h5
    simp only [leB_true] at h5
    obtain ⟨k, rfl⟩ : ∃ m, k = m + 1 := ⟨k - 1, by omega⟩
    have ek : ((k + 1 : Nat) : Int) - 1 = (k : Int) := by omega
    have wk : IntKind.i64.wrap (((k + 1 : Nat) : Int) - 1 - 1) = (k : Int) - 1 := by rw [ek]; exact wrap_i64 (by omega) (by omega)
    refine ⟨?_, ⟨(k, unarr (Go.Sort.siftDown Go.Sort.ltInt n A k (arr l))), by show k ≤ n + 1; omega, by show k ≤ n ∨ n = 0; omega, by rw [unarr_len, sift_size, arr_size]; exact g2, ?_⟩,
      ⟨[], rfl, ⟨slot wk, rfl, rfl, rfl, rfl, trivial⟩, ⟨gro (sift_out ek rfl rfl), trivial⟩⟩, ?_⟩
    · show 0 ≤ ((k + 1 : Nat) : Int) - 1 ∧ 0 ≤ (n : Int) ∧ 0 ≤ (A : Int) ∧ (A : Int) + (n : Int) ≤ (l.length : Int) ∧ ((k + 1 : Nat) : Int) - 1 ≤ 1000000 ∧ l.length ≤ 1000000
      omega
    · rw [← g3, arr_unarr]; rfl
    · show k < k + 1
      omega
  · replace h5 : leB 0 ((k : Int) - 1) = false := h5
    simp only [leB_false] at h5
    have hk : k = 0 := by omega
    subst hk
    have wn2 : IntKind.i64.wrap ((n : Int) - 1) = (n : Int) - 1 := wn1
    refine ⟨{ x : Nat × List D // x.1 ≤ n ∧ x.2.length = xs.length ∧ Go.Sort.heapPop Go.Sort.ltInt A x.1 (arr x.2) = Go.Sort.heapSort Go.Sort.ltInt (arr xs) A B }, 1,
      fun x => ([(10, .dat i64 (.I ((x.1.1 : Int) - 1))), (6, .dat i64 (.I A)), (7, .dat i64 (.I 0)), (0, .own 0 u64)], [(0, .grow u64 x.1.2)]), fun x => x.1.1,
      ⟨(n, l), Nat.le_refl _, g2, ?_⟩, ⟨[], rfl, ⟨slot wn2, rfl, rfl, rfl, trivial⟩, ⟨rfl, trivial⟩⟩, ?_⟩
    · show Go.Sort.heapPop Go.Sort.ltInt A n (arr l) = _
      rw [Go.Sort.heapSort, ← hn, ← g3]; rfl
    intro x
    obtain ⟨⟨k, m⟩, j1, j2, j3⟩ := x
    simp only at j1 j2 j3
    refine ⟨fun h6 => ?_, fun h6 => ?_⟩
    · replace h6 : leB 0 ((k : Int) - 1) = true := h6
      simp only [leB_true] at h6
      obtain ⟨k, rfl⟩ : ∃ m, k = m + 1 := ⟨k - 1, by omega⟩
      have ek : ((k + 1 : Nat) : Int) - 1 = (k : Int) := by omega
      have wk : IntKind.i64.wrap (((k + 1 : Nat) : Int) - 1 - 1) = (k : Int) - 1 := by rw [ek]; exact wrap_i64 (by omega) (by omega)
      have wA : IntKind.i64.wrap ((A : Int) + (((k + 1 : Nat) : Int) - 1)) = ((A + k : Nat) : Int) := w64 (by omega) (by omega)
      have bA : A < m.length := by omega
      have bk : A + k < m.length := by omega
      refine ⟨ixW wA bk, ix bA, ix bA, ixS wA bk, by kernel_rfl, ?_, ⟨(k, unarr (Go.Sort.siftDown Go.Sort.ltInt k A 0 (arr (swpL m A (A + k))))), by show k ≤ n; omega, by rw [unarr_len, sift_size, arr_size, swpL_len]; exact j2, ?_⟩,
        ⟨[], rfl, ⟨slot wk, rfl, rfl, rfl, trivial⟩, ⟨gro ?_, trivial⟩⟩, ?_⟩
      · exact sift_pre (m := swpL m A (A + k)) (lo := 0) (hi := ((k + 1 : Nat) : Int) - 1) (f := (A : Int)) (congrArg List.length (swpG (i := A) (j := A + k) rfl wA)) (by rw [swpL_len]; omega)
      · rw [← j3, arr_unarr, swpL_arr]; rfl
      · exact (congrArg (fun l => mSift.out l [.I 0, .I (((k + 1 : Nat) : Int) - 1), .I (A : Int)]) (swpG (i := A) (j := A + k) rfl wA)).trans (sift_out rfl ek rfl)
      · show k < k + 1
        omega
    · replace h6 : leB 0 ((k : Int) - 1) = false := h6
      simp only [leB_false] at h6
      have hk : k = 0 := by omega
      subst hk
      exact ⟨⟨rfl, hfin m j3⟩, trivial⟩
def natD (d : D) : Nat := d.int.toNat
def sOrd : PSum := ⟨[.slice u64, i64, i64], i64, fun ds x => match ds with
  | [l, a, b] => some (0 ≤ a.int ∧ a.int < l.list.length ∧ 0 ≤ b.int ∧ b.int < l.list.length ∧ 0 ≤ x.int ∧ x.int ≤ 1000)
  | _ => some False, fun ds x => match ds with
  | [l, a, b] => .tup [.dat i64 (.I (Go.Sort.order2 Go.Sort.ltInt (arr l.list) (natD a) (natD b) (natD x)).1), .dat i64 (.I (Go.Sort.order2 Go.Sort.ltInt (arr l.list) (natD a) (natD b) (natD x)).2.1)]
  | _ => .und, fun ds x => match ds with
  | [l, a, b] => .I (Go.Sort.order2 Go.Sort.ltInt (arr l.list) (natD a) (natD b) (natD x)).2.2
  | _ => .Z⟩
theorem natD_of {a : D} (h : 0 ≤ a.int) : ∃ A : Nat, a.int = A ∧ natD a = A := natOf h
theorem ord_fun : FunPOK cZ 60 Try.f62 sOrd := fun l hl a ha b hb x hx h => by
  replace h : 0 ≤ a.int ∧ a.int < l.list.length ∧ 0 ≤ b.int ∧ b.int < l.list.length ∧ 0 ≤ x.int ∧ x.int ≤ 1000 := h
  obtain ⟨k1, k2, k3, k4, k5, k6⟩ := h
  obtain ⟨A, hA, hA'⟩ := natD_of k1
  obtain ⟨B, hB, hB'⟩ := natD_of k3
  obtain ⟨X, hX, hX'⟩ := natD_of k5
  have wx : IntKind.i64.wrap (x.int + 1) = ((X + 1 : Nat) : Int) := w64 (by omega) (by omega)
  refine ⟨⟨k3, k4⟩, ⟨k1, k2⟩, by kernel_rfl, fun h1 => ?_, fun h1 => ?_⟩
  · have e : Go.Sort.order2 Go.Sort.ltInt (arr l.list) (natD a) (natD b) (natD x) = (B, A, X + 1) := by
      rw [hA', hB', hX', Go.Sort.order2, if_pos ((ltE hB hA).symm.trans h1)]
    refine ⟨⟨⟨rfl, rfl⟩, Bears.int ?_⟩, Bears.int ?_, Bears.int ?_, trivial⟩
    · show IntKind.i64.wrap (x.int + 1) = ((Go.Sort.order2 Go.Sort.ltInt (arr l.list) (natD a) (natD b) (natD x)).2.2 : Int)
      rw [e]; exact wx
    · show b.int = ((Go.Sort.order2 Go.Sort.ltInt (arr l.list) (natD a) (natD b) (natD x)).1 : Int)
      rw [e]; exact hB
    · show a.int = ((Go.Sort.order2 Go.Sort.ltInt (arr l.list) (natD a) (natD b) (natD x)).2.1 : Int)
      rw [e]; exact hA
  · have h2 : Go.Sort.ltInt (arr l.list)[B]! (arr l.list)[A]! = false := (ltE hB hA).symm.trans h1
    have e : Go.Sort.order2 Go.Sort.ltInt (arr l.list) (natD a) (natD b) (natD x) = (A, B, X) := by
      rw [hA', hB', hX', Go.Sort.order2, if_neg (by rw [h2]; decide)]
    refine ⟨⟨⟨rfl, rfl⟩, Bears.int ?_⟩, Bears.int ?_, Bears.int ?_, trivial⟩
    · show x.int = ((Go.Sort.order2 Go.Sort.ltInt (arr l.list) (natD a) (natD b) (natD x)).2.2 : Int)
      rw [e]; exact hX
    · show a.int = ((Go.Sort.order2 Go.Sort.ltInt (arr l.list) (natD a) (natD b) (natD x)).1 : Int)
      rw [e]; exact hA
    · show b.int = ((Go.Sort.order2 Go.Sort.ltInt (arr l.list) (natD a) (natD b) (natD x)).2.1 : Int)
      rw [e]; exact hB
theorem ord_mem (d : Array Int) (a b s : Nat) {n : Nat} (ha : a < n) (hb : b < n) : (Go.Sort.order2 Go.Sort.ltInt d a b s).1 < n ∧ (Go.Sort.order2 Go.Sort.ltInt d a b s).2.1 < n ∧ (Go.Sort.order2 Go.Sort.ltInt d a b s).2.2 ≤ s + 1 := by
  rw [Go.Sort.order2]; split
  · exact ⟨hb, ha, Nat.le_refl _⟩
  · exact ⟨ha, hb, Nat.le_succ _⟩
theorem med_mem (d : Array Int) (a b c s : Nat) {n : Nat} (ha : a < n) (hb : b < n) (hc : c < n) : (Go.Sort.median Go.Sort.ltInt d a b c s).1 < n ∧ (Go.Sort.median Go.Sort.ltInt d a b c s).2 ≤ s + 3 := by
  have h1 := ord_mem d a b s ha hb
  have h2 := ord_mem d _ c (Go.Sort.order2 Go.Sort.ltInt d a b s).2.2 h1.2.1 hc
  have h3 := ord_mem d _ _ (Go.Sort.order2 Go.Sort.ltInt d (Go.Sort.order2 Go.Sort.ltInt d a b s).2.1 c (Go.Sort.order2 Go.Sort.ltInt d a b s).2.2).2.2 h1.1 h2.1
  refine ⟨h3.2.1, ?_⟩
  have := h3.2.2
  have := h2.2.2
  have := h1.2.2
  show (Go.Sort.order2 Go.Sort.ltInt d (Go.Sort.order2 Go.Sort.ltInt d a b s).1 (Go.Sort.order2 Go.Sort.ltInt d (Go.Sort.order2 Go.Sort.ltInt d a b s).2.1 c (Go.Sort.order2 Go.Sort.ltInt d a b s).2.2).1 (Go.Sort.order2 Go.Sort.ltInt d (Go.Sort.order2 Go.Sort.ltInt d a b s).2.1 c (Go.Sort.order2 Go.Sort.ltInt d a b s).2.2).2.2).2.2 ≤ s + 3
  omega
theorem adj_mem (d : Array Int) (a s : Nat) {n : Nat} (ha : a + 1 < n) : (Go.Sort.medianAdjacent Go.Sort.ltInt d a s).1 < n ∧ (Go.Sort.medianAdjacent Go.Sort.ltInt d a s).2 ≤ s + 3 :=
  med_mem d (a - 1) a (a + 1) s (by omega) (by omega) ha
theorem natBd {n m : Nat} (h : n < m) : 0 ≤ ((n : Nat) : Int) ∧ ((n : Nat) : Int) < (m : Int) := by omega
noncomputable def cMd : Ctx := ⟨tabS, [], [], [], keep, [(62 + 1000000, .psum sOrd)]⟩
def sMed : PSum := ⟨[.slice u64, i64, i64, i64], i64, fun ds x => match ds with
  | [l, a, b, c] => some (0 ≤ a.int ∧ a.int < l.list.length ∧ 0 ≤ b.int ∧ b.int < l.list.length ∧ 0 ≤ c.int ∧ c.int < l.list.length ∧ 0 ≤ x.int ∧ x.int ≤ 100)
  | _ => some False, fun ds x => match ds with
  | [l, a, b, c] => .dat i64 (.I (Go.Sort.median Go.Sort.ltInt (arr l.list) (natD a) (natD b) (natD c) (natD x)).1)
  | _ => .und, fun ds x => match ds with
  | [l, a, b, c] => .I (Go.Sort.median Go.Sort.ltInt (arr l.list) (natD a) (natD b) (natD c) (natD x)).2
  | _ => .Z⟩
theorem med_fun : FunPOK cMd 60 Try.f60 sMed := fun l hl a ha b hb c hc x hx h => by
  replace h : 0 ≤ a.int ∧ a.int < l.list.length ∧ 0 ≤ b.int ∧ b.int < l.list.length ∧ 0 ≤ c.int ∧ c.int < l.list.length ∧ 0 ≤ x.int ∧ x.int ≤ 100 := h
  obtain ⟨k1, k2, k3, k4, k5, k6, k7, k8⟩ := h
  have hA : natD a < l.list.length := by rw [natD]; omega
  have hB : natD b < l.list.length := by rw [natD]; omega
  have hC : natD c < l.list.length := by rw [natD]; omega
  have hX : natD x ≤ 100 := by rw [natD]; omega
  have h1 := ord_mem (arr l.list) (natD a) (natD b) (natD x) hA hB
  have h2 := ord_mem (arr l.list) _ (natD c) (Go.Sort.order2 Go.Sort.ltInt (arr l.list) (natD a) (natD b) (natD x)).2.2 h1.2.1 hC
  refine ⟨⟨k1, k2, k3, k4, k7, by omega⟩, ⟨(natBd h1.2.1).1, (natBd h1.2.1).2, k5, k6, Int.natCast_nonneg _, ?_⟩, ⟨(natBd h1.1).1, (natBd h1.1).2, (natBd h2.1).1, (natBd h2.1).2, Int.natCast_nonneg _, ?_⟩, ⟨⟨rfl, rfl⟩, Bears.int rfl⟩, Bears.int rfl⟩
  · show ((Go.Sort.order2 Go.Sort.ltInt (arr l.list) (natD a) (natD b) (natD x)).2.2 : Int) ≤ 1000
    omega
  · show ((Go.Sort.order2 Go.Sort.ltInt (arr l.list) (Go.Sort.order2 Go.Sort.ltInt (arr l.list) (natD a) (natD b) (natD x)).2.1 (natD c) (Go.Sort.order2 Go.Sort.ltInt (arr l.list) (natD a) (natD b) (natD x)).2.2).2.2 : Int) ≤ 1000
    omega
def sAdj : PSum := ⟨[.slice u64, i64], i64, fun ds x => match ds with
  | [l, a] => some (1 ≤ a.int ∧ a.int + 1 < l.list.length ∧ l.list.length ≤ 1000000 ∧ 0 ≤ x.int ∧ x.int ≤ 100)
  | _ => some False, fun ds x => match ds with
  | [l, a] => .dat i64 (.I (Go.Sort.medianAdjacent Go.Sort.ltInt (arr l.list) (natD a) (natD x)).1)
  | _ => .und, fun ds x => match ds with
  | [l, a] => .I (Go.Sort.medianAdjacent Go.Sort.ltInt (arr l.list) (natD a) (natD x)).2
  | _ => .Z⟩
noncomputable def cAd : Ctx := ⟨tabS, [], [], [], keep, [(60 + 1000000, .psum sMed)]⟩
theorem adj_fun : FunPOK cAd 60 Try.f59 sAdj := fun l hl a ha x hx h => by
  replace h : 1 ≤ a.int ∧ a.int + 1 < l.list.length ∧ l.list.length ≤ 1000000 ∧ 0 ≤ x.int ∧ x.int ≤ 100 := h
  obtain ⟨k1, k2, k3, k4, k5⟩ := h
  obtain ⟨A, hA, hA'⟩ := natD_of (a := a) (by omega)
  have w1 : IntKind.i64.wrap (a.int - 1) = ((A - 1 : Nat) : Int) := w64 (by omega) (by omega)
  have w2 : IntKind.i64.wrap (a.int + 1) = ((A + 1 : Nat) : Int) := w64 (by omega) (by omega)
  have n1 : natD (D.I (IntKind.i64.wrap (a.int - 1))) = A - 1 := by show (IntKind.i64.wrap (a.int - 1)).toNat = _; rw [w1]; rfl
  have n2 : natD (D.I (IntKind.i64.wrap (a.int + 1))) = A + 1 := by show (IntKind.i64.wrap (a.int + 1)).toNat = _; rw [w2]; rfl
  have e : Go.Sort.median Go.Sort.ltInt (arr l.list) (natD (D.I (IntKind.i64.wrap (a.int - 1)))) (natD (D.I a.int)) (natD (D.I (IntKind.i64.wrap (a.int + 1)))) (natD x) = Go.Sort.medianAdjacent Go.Sort.ltInt (arr l.list) (natD a) (natD x) := by
    rw [n1, n2, hA']
    show Go.Sort.median Go.Sort.ltInt (arr l.list) (A - 1) (natD a) (A + 1) (natD x) = _
    rw [hA']; rfl
  refine ⟨?_, ⟨⟨rfl, rfl⟩, Bears.int (congrArg (fun r => (r.2 : Int)) e)⟩, Bears.int (congrArg (fun r => (r.1 : Int)) e)⟩
  show 0 ≤ IntKind.i64.wrap (a.int - 1) ∧ IntKind.i64.wrap (a.int - 1) < l.list.length ∧ 0 ≤ a.int ∧ a.int < l.list.length ∧ 0 ≤ IntKind.i64.wrap (a.int + 1) ∧ IntKind.i64.wrap (a.int + 1) < l.list.length ∧ 0 ≤ x.int ∧ x.int ≤ 100
  rw [w1, w2]
  omega
noncomputable def cCh : Ctx := ⟨tabS, [], [], [], keep, [(60 + 1000000, .psum sMed), (59 + 1000000, .psum sAdj)]⟩
def hcode : Go.Sort.Hint → Int
  | .unknown => 0
  | .increasing => 1
  | .decreasing => 2
def sCho : Sum := ⟨[.slice u64, i64, i64], fun
  | [l, a, b] => some (0 ≤ a.int ∧ a.int < b.int ∧ b.int ≤ l.list.length ∧ l.list.length ≤ 1000000)
  | _ => some False, fun
  | [l, a, b] => .tup [.dat i64 (.I (Go.Sort.choosePivot Go.Sort.ltInt (arr l.list) (natD a) (natD b)).1), .dat i64 (.I (hcode (Go.Sort.choosePivot Go.Sort.ltInt (arr l.list) (natD a) (natD b)).2))]
  | _ => .und⟩
def tabH : List (Nat × Sh) := (69, i64) :: tabS
noncomputable def cCo : Ctx := { cCh with tab := tabH }
set_option maxHeartbeats 4000000 in
theorem cho_fun : FunOK cCo 60 Try.f48 sCho := fun l hl a ha b hb h => by
  replace h : 0 ≤ a.int ∧ a.int < b.int ∧ b.int ≤ l.list.length ∧ l.list.length ≤ 1000000 := h
  obtain ⟨k1, k2, k3, k4⟩ := h
  obtain ⟨A, hA, hA'⟩ := natD_of (a := a) (by omega)
  obtain ⟨B, hB, hB'⟩ := natD_of (a := b) (by omega)
  obtain ⟨L, hL⟩ : ∃ L, L = B - A := ⟨_, rfl⟩
  have wL : IntKind.i64.wrap (b.int - a.int) = (L : Int) := w64 (by omega) (by omega)
  have wq : IntKind.i64.wrap ((IntKind.i64.wrap (b.int - a.int)).tdiv 4) = ((L / 4 : Nat) : Int) := by
    rw [wL, Int.tdiv_eq_ediv_of_nonneg (by omega)]; exact w64 (by omega) (by omega)
  obtain ⟨I, hI⟩ : ∃ I, I = A + L / 4 * 1 := ⟨_, rfl⟩
  obtain ⟨J, hJ⟩ : ∃ J, J = A + L / 4 * 2 := ⟨_, rfl⟩
  obtain ⟨K, hK⟩ : ∃ K, K = A + L / 4 * 3 := ⟨_, rfl⟩
  have wk : ∀ k : Nat, k ≤ 3 → IntKind.i64.wrap (a.int + IntKind.i64.wrap (IntKind.i64.wrap ((IntKind.i64.wrap (b.int - a.int)).tdiv 4) * (k : Int))) = ((A + L / 4 * k : Nat) : Int) := fun k hk => by
    have hm : L / 4 * k ≤ 1000000 := by
      have : L / 4 * k ≤ L / 4 * 3 := Nat.mul_le_mul_left _ hk
      omega
    rw [wq, w64 (a := ((L / 4 : Nat) : Int) * (k : Int)) (n := L / 4 * k) (by rw [Int.natCast_mul]) (by omega)]
    exact w64 (by omega) (by omega)
  have w1 : IntKind.i64.wrap (a.int + IntKind.i64.wrap (IntKind.i64.wrap ((IntKind.i64.wrap (b.int - a.int)).tdiv 4) * 1)) = (I : Int) := by rw [hI]; exact wk 1 (by omega)
  have w2 : IntKind.i64.wrap (a.int + IntKind.i64.wrap (IntKind.i64.wrap ((IntKind.i64.wrap (b.int - a.int)).tdiv 4) * 2)) = (J : Int) := by rw [hJ]; exact wk 2 (by omega)
  have w3 : IntKind.i64.wrap (a.int + IntKind.i64.wrap (IntKind.i64.wrap ((IntKind.i64.wrap (b.int - a.int)).tdiv 4) * 3)) = (K : Int) := by rw [hK]; exact wk 3 (by omega)
  have n1 : natD (D.I (IntKind.i64.wrap (a.int + IntKind.i64.wrap (IntKind.i64.wrap ((IntKind.i64.wrap (b.int - a.int)).tdiv 4) * 1)))) = I := by show (IntKind.i64.wrap (a.int + IntKind.i64.wrap (IntKind.i64.wrap ((IntKind.i64.wrap (b.int - a.int)).tdiv 4) * 1))).toNat = I; rw [w1]; rfl
  have n2 : natD (D.I (IntKind.i64.wrap (a.int + IntKind.i64.wrap (IntKind.i64.wrap ((IntKind.i64.wrap (b.int - a.int)).tdiv 4) * 2)))) = J := by show (IntKind.i64.wrap (a.int + IntKind.i64.wrap (IntKind.i64.wrap ((IntKind.i64.wrap (b.int - a.int)).tdiv 4) * 2))).toNat = J; rw [w2]; rfl
  have n3 : natD (D.I (IntKind.i64.wrap (a.int + IntKind.i64.wrap (IntKind.i64.wrap ((IntKind.i64.wrap (b.int - a.int)).tdiv 4) * 3)))) = K := by show (IntKind.i64.wrap (a.int + IntKind.i64.wrap (IntKind.i64.wrap ((IntKind.i64.wrap (b.int - a.int)).tdiv 4) * 3))).toNat = K; rw [w3]; rfl
  refine ⟨ne0 rfl, ne0 rfl, ne0 rfl, fun h1 => ?_, fun h1 => ?_⟩
  · replace h1 : leB 8 (IntKind.i64.wrap (b.int - a.int)) = true := h1
    rw [wL, leB_true] at h1
    refine ⟨fun h2 => ?_, fun h2 => ?_⟩
    · replace h2 : leB 50 (IntKind.i64.wrap (b.int - a.int)) = true := h2
      rw [wL, leB_true] at h2
      have m1 := adj_mem (arr l.list) I 0 (n := l.list.length) (by omega)
      have m2 := adj_mem (arr l.list) J (Go.Sort.medianAdjacent Go.Sort.ltInt (arr l.list) I 0).2 (n := l.list.length) (by omega)
      have m3 := adj_mem (arr l.list) K (Go.Sort.medianAdjacent Go.Sort.ltInt (arr l.list) J (Go.Sort.medianAdjacent Go.Sort.ltInt (arr l.list) I 0).2).2 (n := l.list.length) (by omega)
      have q1 : (sAdj.box [l, .I (IntKind.i64.wrap (a.int + IntKind.i64.wrap (IntKind.i64.wrap ((IntKind.i64.wrap (b.int - a.int)).tdiv 4) * 1)))] (D0 i64)).int = ((Go.Sort.medianAdjacent Go.Sort.ltInt (arr l.list) I 0).2 : Int) := by
        show ((Go.Sort.medianAdjacent Go.Sort.ltInt (arr l.list) (natD (D.I (IntKind.i64.wrap (a.int + IntKind.i64.wrap (IntKind.i64.wrap ((IntKind.i64.wrap (b.int - a.int)).tdiv 4) * 1))))) 0).2 : Int) = _
        rw [n1]
      have q1' : natD (sAdj.box [l, .I (IntKind.i64.wrap (a.int + IntKind.i64.wrap (IntKind.i64.wrap ((IntKind.i64.wrap (b.int - a.int)).tdiv 4) * 1)))] (D0 i64)) = (Go.Sort.medianAdjacent Go.Sort.ltInt (arr l.list) I 0).2 := by rw [natD, q1]; rfl
      have q2 : (sAdj.box [l, .I (IntKind.i64.wrap (a.int + IntKind.i64.wrap (IntKind.i64.wrap ((IntKind.i64.wrap (b.int - a.int)).tdiv 4) * 2)))] (sAdj.box [l, .I (IntKind.i64.wrap (a.int + IntKind.i64.wrap (IntKind.i64.wrap ((IntKind.i64.wrap (b.int - a.int)).tdiv 4) * 1)))] (D0 i64))).int = ((Go.Sort.medianAdjacent Go.Sort.ltInt (arr l.list) J (Go.Sort.medianAdjacent Go.Sort.ltInt (arr l.list) I 0).2).2 : Int) := by
        show ((Go.Sort.medianAdjacent Go.Sort.ltInt (arr l.list) (natD (D.I (IntKind.i64.wrap (a.int + IntKind.i64.wrap (IntKind.i64.wrap ((IntKind.i64.wrap (b.int - a.int)).tdiv 4) * 2))))) (natD (sAdj.box [l, .I (IntKind.i64.wrap (a.int + IntKind.i64.wrap (IntKind.i64.wrap ((IntKind.i64.wrap (b.int - a.int)).tdiv 4) * 1)))] (D0 i64)))).2 : Int) = _
        rw [n2, q1']
      have q2' : natD (sAdj.box [l, .I (IntKind.i64.wrap (a.int + IntKind.i64.wrap (IntKind.i64.wrap ((IntKind.i64.wrap (b.int - a.int)).tdiv 4) * 2)))] (sAdj.box [l, .I (IntKind.i64.wrap (a.int + IntKind.i64.wrap (IntKind.i64.wrap ((IntKind.i64.wrap (b.int - a.int)).tdiv 4) * 1)))] (D0 i64))) = (Go.Sort.medianAdjacent Go.Sort.ltInt (arr l.list) J (Go.Sort.medianAdjacent Go.Sort.ltInt (arr l.list) I 0).2).2 := by rw [natD, q2]; rfl
      have q3 : (sAdj.box [l, .I (IntKind.i64.wrap (a.int + IntKind.i64.wrap (IntKind.i64.wrap ((IntKind.i64.wrap (b.int - a.int)).tdiv 4) * 3)))] (sAdj.box [l, .I (IntKind.i64.wrap (a.int + IntKind.i64.wrap (IntKind.i64.wrap ((IntKind.i64.wrap (b.int - a.int)).tdiv 4) * 2)))] (sAdj.box [l, .I (IntKind.i64.wrap (a.int + IntKind.i64.wrap (IntKind.i64.wrap ((IntKind.i64.wrap (b.int - a.int)).tdiv 4) * 1)))] (D0 i64)))).int = ((Go.Sort.medianAdjacent Go.Sort.ltInt (arr l.list) K (Go.Sort.medianAdjacent Go.Sort.ltInt (arr l.list) J (Go.Sort.medianAdjacent Go.Sort.ltInt (arr l.list) I 0).2).2).2 : Int) := by
        show ((Go.Sort.medianAdjacent Go.Sort.ltInt (arr l.list) (natD (D.I (IntKind.i64.wrap (a.int + IntKind.i64.wrap (IntKind.i64.wrap ((IntKind.i64.wrap (b.int - a.int)).tdiv 4) * 3))))) (natD (sAdj.box [l, .I (IntKind.i64.wrap (a.int + IntKind.i64.wrap (IntKind.i64.wrap ((IntKind.i64.wrap (b.int - a.int)).tdiv 4) * 2)))] (sAdj.box [l, .I (IntKind.i64.wrap (a.int + IntKind.i64.wrap (IntKind.i64.wrap ((IntKind.i64.wrap (b.int - a.int)).tdiv 4) * 1)))] (D0 i64))))).2 : Int) = _
        rw [n3, q2']
      have q3' : natD (sAdj.box [l, .I (IntKind.i64.wrap (a.int + IntKind.i64.wrap (IntKind.i64.wrap ((IntKind.i64.wrap (b.int - a.int)).tdiv 4) * 3)))] (sAdj.box [l, .I (IntKind.i64.wrap (a.int + IntKind.i64.wrap (IntKind.i64.wrap ((IntKind.i64.wrap (b.int - a.int)).tdiv 4) * 2)))] (sAdj.box [l, .I (IntKind.i64.wrap (a.int + IntKind.i64.wrap (IntKind.i64.wrap ((IntKind.i64.wrap (b.int - a.int)).tdiv 4) * 1)))] (D0 i64)))) = (Go.Sort.medianAdjacent Go.Sort.ltInt (arr l.list) K (Go.Sort.medianAdjacent Go.Sort.ltInt (arr l.list) J (Go.Sort.medianAdjacent Go.Sort.ltInt (arr l.list) I 0).2).2).2 := by rw [natD, q3]; rfl
      have v1 : Go.Sort.medianAdjacent Go.Sort.ltInt (arr l.list) (natD (D.I (IntKind.i64.wrap (a.int + IntKind.i64.wrap (IntKind.i64.wrap ((IntKind.i64.wrap (b.int - a.int)).tdiv 4) * 1))))) (natD (D0 i64)) = (Go.Sort.medianAdjacent Go.Sort.ltInt (arr l.list) I 0) := by rw [n1]; rfl
      have v2 : Go.Sort.medianAdjacent Go.Sort.ltInt (arr l.list) (natD (D.I (IntKind.i64.wrap (a.int + IntKind.i64.wrap (IntKind.i64.wrap ((IntKind.i64.wrap (b.int - a.int)).tdiv 4) * 2))))) (natD (sAdj.box [l, .I (IntKind.i64.wrap (a.int + IntKind.i64.wrap (IntKind.i64.wrap ((IntKind.i64.wrap (b.int - a.int)).tdiv 4) * 1)))] (D0 i64))) = (Go.Sort.medianAdjacent Go.Sort.ltInt (arr l.list) J (Go.Sort.medianAdjacent Go.Sort.ltInt (arr l.list) I 0).2) := by rw [n2, q1']
      have v3 : Go.Sort.medianAdjacent Go.Sort.ltInt (arr l.list) (natD (D.I (IntKind.i64.wrap (a.int + IntKind.i64.wrap (IntKind.i64.wrap ((IntKind.i64.wrap (b.int - a.int)).tdiv 4) * 3))))) (natD (sAdj.box [l, .I (IntKind.i64.wrap (a.int + IntKind.i64.wrap (IntKind.i64.wrap ((IntKind.i64.wrap (b.int - a.int)).tdiv 4) * 2)))] (sAdj.box [l, .I (IntKind.i64.wrap (a.int + IntKind.i64.wrap (IntKind.i64.wrap ((IntKind.i64.wrap (b.int - a.int)).tdiv 4) * 1)))] (D0 i64)))) = (Go.Sort.medianAdjacent Go.Sort.ltInt (arr l.list) K (Go.Sort.medianAdjacent Go.Sort.ltInt (arr l.list) J (Go.Sort.medianAdjacent Go.Sort.ltInt (arr l.list) I 0).2).2) := by rw [n3, q2']
      have hc : Go.Sort.choosePivot Go.Sort.ltInt (arr l.list) (natD a) (natD b) = ((Go.Sort.median Go.Sort.ltInt (arr l.list) (Go.Sort.medianAdjacent Go.Sort.ltInt (arr l.list) I 0).1 (Go.Sort.medianAdjacent Go.Sort.ltInt (arr l.list) J (Go.Sort.medianAdjacent Go.Sort.ltInt (arr l.list) I 0).2).1 (Go.Sort.medianAdjacent Go.Sort.ltInt (arr l.list) K (Go.Sort.medianAdjacent Go.Sort.ltInt (arr l.list) J (Go.Sort.medianAdjacent Go.Sort.ltInt (arr l.list) I 0).2).2).1 (Go.Sort.medianAdjacent Go.Sort.ltInt (arr l.list) K (Go.Sort.medianAdjacent Go.Sort.ltInt (arr l.list) J (Go.Sort.medianAdjacent Go.Sort.ltInt (arr l.list) I 0).2).2).2).1, (if (Go.Sort.median Go.Sort.ltInt (arr l.list) (Go.Sort.medianAdjacent Go.Sort.ltInt (arr l.list) I 0).1 (Go.Sort.medianAdjacent Go.Sort.ltInt (arr l.list) J (Go.Sort.medianAdjacent Go.Sort.ltInt (arr l.list) I 0).2).1 (Go.Sort.medianAdjacent Go.Sort.ltInt (arr l.list) K (Go.Sort.medianAdjacent Go.Sort.ltInt (arr l.list) J (Go.Sort.medianAdjacent Go.Sort.ltInt (arr l.list) I 0).2).2).1 (Go.Sort.medianAdjacent Go.Sort.ltInt (arr l.list) K (Go.Sort.medianAdjacent Go.Sort.ltInt (arr l.list) J (Go.Sort.medianAdjacent Go.Sort.ltInt (arr l.list) I 0).2).2).2).2 = 0 then Go.Sort.Hint.increasing else if (Go.Sort.median Go.Sort.ltInt (arr l.list) (Go.Sort.medianAdjacent Go.Sort.ltInt (arr l.list) I 0).1 (Go.Sort.medianAdjacent Go.Sort.ltInt (arr l.list) J (Go.Sort.medianAdjacent Go.Sort.ltInt (arr l.list) I 0).2).1 (Go.Sort.medianAdjacent Go.Sort.ltInt (arr l.list) K (Go.Sort.medianAdjacent Go.Sort.ltInt (arr l.list) J (Go.Sort.medianAdjacent Go.Sort.ltInt (arr l.list) I 0).2).2).1 (Go.Sort.medianAdjacent Go.Sort.ltInt (arr l.list) K (Go.Sort.medianAdjacent Go.Sort.ltInt (arr l.list) J (Go.Sort.medianAdjacent Go.Sort.ltInt (arr l.list) I 0).2).2).2).2 = 12 then .decreasing else .unknown)) := by
        rw [hA', hB', Go.Sort.choosePivot]
        simp only [← hL, if_pos (show L ≥ 8 by omega), if_pos (show L ≥ 50 by omega), ← hI, ← hJ, ← hK]
      have V : ((Go.Sort.median Go.Sort.ltInt (arr l.list) (natD (D.I ((Go.Sort.medianAdjacent Go.Sort.ltInt (arr l.list) (natD (D.I (IntKind.i64.wrap (a.int + IntKind.i64.wrap (IntKind.i64.wrap ((IntKind.i64.wrap (b.int - a.int)).tdiv 4) * 1))))) (natD (D0 i64))).1 : Int))) (natD (D.I ((Go.Sort.medianAdjacent Go.Sort.ltInt (arr l.list) (natD (D.I (IntKind.i64.wrap (a.int + IntKind.i64.wrap (IntKind.i64.wrap ((IntKind.i64.wrap (b.int - a.int)).tdiv 4) * 2))))) (natD (sAdj.box [l, .I (IntKind.i64.wrap (a.int + IntKind.i64.wrap (IntKind.i64.wrap ((IntKind.i64.wrap (b.int - a.int)).tdiv 4) * 1)))] (D0 i64)))).1 : Int))) (natD (D.I ((Go.Sort.medianAdjacent Go.Sort.ltInt (arr l.list) (natD (D.I (IntKind.i64.wrap (a.int + IntKind.i64.wrap (IntKind.i64.wrap ((IntKind.i64.wrap (b.int - a.int)).tdiv 4) * 3))))) (natD (sAdj.box [l, .I (IntKind.i64.wrap (a.int + IntKind.i64.wrap (IntKind.i64.wrap ((IntKind.i64.wrap (b.int - a.int)).tdiv 4) * 2)))] (sAdj.box [l, .I (IntKind.i64.wrap (a.int + IntKind.i64.wrap (IntKind.i64.wrap ((IntKind.i64.wrap (b.int - a.int)).tdiv 4) * 1)))] (D0 i64))))).1 : Int))) (natD (sAdj.box [l, .I (IntKind.i64.wrap (a.int + IntKind.i64.wrap (IntKind.i64.wrap ((IntKind.i64.wrap (b.int - a.int)).tdiv 4) * 3)))] (sAdj.box [l, .I (IntKind.i64.wrap (a.int + IntKind.i64.wrap (IntKind.i64.wrap ((IntKind.i64.wrap (b.int - a.int)).tdiv 4) * 2)))] (sAdj.box [l, .I (IntKind.i64.wrap (a.int + IntKind.i64.wrap (IntKind.i64.wrap ((IntKind.i64.wrap (b.int - a.int)).tdiv 4) * 1)))] (D0 i64)))))).1 : Int) = ((Go.Sort.median Go.Sort.ltInt (arr l.list) (Go.Sort.medianAdjacent Go.Sort.ltInt (arr l.list) I 0).1 (Go.Sort.medianAdjacent Go.Sort.ltInt (arr l.list) J (Go.Sort.medianAdjacent Go.Sort.ltInt (arr l.list) I 0).2).1 (Go.Sort.medianAdjacent Go.Sort.ltInt (arr l.list) K (Go.Sort.medianAdjacent Go.Sort.ltInt (arr l.list) J (Go.Sort.medianAdjacent Go.Sort.ltInt (arr l.list) I 0).2).2).1 (Go.Sort.medianAdjacent Go.Sort.ltInt (arr l.list) K (Go.Sort.medianAdjacent Go.Sort.ltInt (arr l.list) J (Go.Sort.medianAdjacent Go.Sort.ltInt (arr l.list) I 0).2).2).2).1 : Int) ∧
          (sMed.box [l, D.I ((Go.Sort.medianAdjacent Go.Sort.ltInt (arr l.list) (natD (D.I (IntKind.i64.wrap (a.int + IntKind.i64.wrap (IntKind.i64.wrap ((IntKind.i64.wrap (b.int - a.int)).tdiv 4) * 1))))) (natD (D0 i64))).1 : Int), D.I ((Go.Sort.medianAdjacent Go.Sort.ltInt (arr l.list) (natD (D.I (IntKind.i64.wrap (a.int + IntKind.i64.wrap (IntKind.i64.wrap ((IntKind.i64.wrap (b.int - a.int)).tdiv 4) * 2))))) (natD (sAdj.box [l, .I (IntKind.i64.wrap (a.int + IntKind.i64.wrap (IntKind.i64.wrap ((IntKind.i64.wrap (b.int - a.int)).tdiv 4) * 1)))] (D0 i64)))).1 : Int), D.I ((Go.Sort.medianAdjacent Go.Sort.ltInt (arr l.list) (natD (D.I (IntKind.i64.wrap (a.int + IntKind.i64.wrap (IntKind.i64.wrap ((IntKind.i64.wrap (b.int - a.int)).tdiv 4) * 3))))) (natD (sAdj.box [l, .I (IntKind.i64.wrap (a.int + IntKind.i64.wrap (IntKind.i64.wrap ((IntKind.i64.wrap (b.int - a.int)).tdiv 4) * 2)))] (sAdj.box [l, .I (IntKind.i64.wrap (a.int + IntKind.i64.wrap (IntKind.i64.wrap ((IntKind.i64.wrap (b.int - a.int)).tdiv 4) * 1)))] (D0 i64))))).1 : Int)] (sAdj.box [l, .I (IntKind.i64.wrap (a.int + IntKind.i64.wrap (IntKind.i64.wrap ((IntKind.i64.wrap (b.int - a.int)).tdiv 4) * 3)))] (sAdj.box [l, .I (IntKind.i64.wrap (a.int + IntKind.i64.wrap (IntKind.i64.wrap ((IntKind.i64.wrap (b.int - a.int)).tdiv 4) * 2)))] (sAdj.box [l, .I (IntKind.i64.wrap (a.int + IntKind.i64.wrap (IntKind.i64.wrap ((IntKind.i64.wrap (b.int - a.int)).tdiv 4) * 1)))] (D0 i64))))).int = ((Go.Sort.median Go.Sort.ltInt (arr l.list) (Go.Sort.medianAdjacent Go.Sort.ltInt (arr l.list) I 0).1 (Go.Sort.medianAdjacent Go.Sort.ltInt (arr l.list) J (Go.Sort.medianAdjacent Go.Sort.ltInt (arr l.list) I 0).2).1 (Go.Sort.medianAdjacent Go.Sort.ltInt (arr l.list) K (Go.Sort.medianAdjacent Go.Sort.ltInt (arr l.list) J (Go.Sort.medianAdjacent Go.Sort.ltInt (arr l.list) I 0).2).2).1 (Go.Sort.medianAdjacent Go.Sort.ltInt (arr l.list) K (Go.Sort.medianAdjacent Go.Sort.ltInt (arr l.list) J (Go.Sort.medianAdjacent Go.Sort.ltInt (arr l.list) I 0).2).2).2).2 : Int) := by
        rw [v1, v2, v3, q3']
        refine ⟨rfl, ?_⟩
        show ((Go.Sort.median Go.Sort.ltInt (arr l.list) (Go.Sort.medianAdjacent Go.Sort.ltInt (arr l.list) I 0).1 (Go.Sort.medianAdjacent Go.Sort.ltInt (arr l.list) J (Go.Sort.medianAdjacent Go.Sort.ltInt (arr l.list) I 0).2).1 (Go.Sort.medianAdjacent Go.Sort.ltInt (arr l.list) K (Go.Sort.medianAdjacent Go.Sort.ltInt (arr l.list) J (Go.Sort.medianAdjacent Go.Sort.ltInt (arr l.list) I 0).2).2).1 (natD (sAdj.box [l, .I (IntKind.i64.wrap (a.int + IntKind.i64.wrap (IntKind.i64.wrap ((IntKind.i64.wrap (b.int - a.int)).tdiv 4) * 3)))] (sAdj.box [l, .I (IntKind.i64.wrap (a.int + IntKind.i64.wrap (IntKind.i64.wrap ((IntKind.i64.wrap (b.int - a.int)).tdiv 4) * 2)))] (sAdj.box [l, .I (IntKind.i64.wrap (a.int + IntKind.i64.wrap (IntKind.i64.wrap ((IntKind.i64.wrap (b.int - a.int)).tdiv 4) * 1)))] (D0 i64)))))).2 : Int) = _
        rw [q3']
      refine ⟨⟨(by show 1 ≤ IntKind.i64.wrap (a.int + IntKind.i64.wrap (IntKind.i64.wrap ((IntKind.i64.wrap (b.int - a.int)).tdiv 4) * 1)); rw [w1]; omega), (by show IntKind.i64.wrap (a.int + IntKind.i64.wrap (IntKind.i64.wrap ((IntKind.i64.wrap (b.int - a.int)).tdiv 4) * 1)) + 1 < (l.list.length : Int); rw [w1]; omega), k4, (by decide), (by decide)⟩,
        ⟨(by show 1 ≤ IntKind.i64.wrap (a.int + IntKind.i64.wrap (IntKind.i64.wrap ((IntKind.i64.wrap (b.int - a.int)).tdiv 4) * 2)); rw [w2]; omega), (by show IntKind.i64.wrap (a.int + IntKind.i64.wrap (IntKind.i64.wrap ((IntKind.i64.wrap (b.int - a.int)).tdiv 4) * 2)) + 1 < (l.list.length : Int); rw [w2]; omega), k4, (by show 0 ≤ (sAdj.box [l, .I (IntKind.i64.wrap (a.int + IntKind.i64.wrap (IntKind.i64.wrap ((IntKind.i64.wrap (b.int - a.int)).tdiv 4) * 1)))] (D0 i64)).int; rw [q1]; omega), (by show (sAdj.box [l, .I (IntKind.i64.wrap (a.int + IntKind.i64.wrap (IntKind.i64.wrap ((IntKind.i64.wrap (b.int - a.int)).tdiv 4) * 1)))] (D0 i64)).int ≤ 100; rw [q1]; omega)⟩,
        ⟨(by show 1 ≤ IntKind.i64.wrap (a.int + IntKind.i64.wrap (IntKind.i64.wrap ((IntKind.i64.wrap (b.int - a.int)).tdiv 4) * 3)); rw [w3]; omega), (by show IntKind.i64.wrap (a.int + IntKind.i64.wrap (IntKind.i64.wrap ((IntKind.i64.wrap (b.int - a.int)).tdiv 4) * 3)) + 1 < (l.list.length : Int); rw [w3]; omega), k4, (by show 0 ≤ (sAdj.box [l, .I (IntKind.i64.wrap (a.int + IntKind.i64.wrap (IntKind.i64.wrap ((IntKind.i64.wrap (b.int - a.int)).tdiv 4) * 2)))] (sAdj.box [l, .I (IntKind.i64.wrap (a.int + IntKind.i64.wrap (IntKind.i64.wrap ((IntKind.i64.wrap (b.int - a.int)).tdiv 4) * 1)))] (D0 i64))).int; rw [q2]; omega), (by show (sAdj.box [l, .I (IntKind.i64.wrap (a.int + IntKind.i64.wrap (IntKind.i64.wrap ((IntKind.i64.wrap (b.int - a.int)).tdiv 4) * 2)))] (sAdj.box [l, .I (IntKind.i64.wrap (a.int + IntKind.i64.wrap (IntKind.i64.wrap ((IntKind.i64.wrap (b.int - a.int)).tdiv 4) * 1)))] (D0 i64))).int ≤ 100; rw [q2]; omega)⟩, ?_, ?_⟩
      · show 0 ≤ ((Go.Sort.medianAdjacent Go.Sort.ltInt (arr l.list) (natD (D.I (IntKind.i64.wrap (a.int + IntKind.i64.wrap (IntKind.i64.wrap ((IntKind.i64.wrap (b.int - a.int)).tdiv 4) * 1))))) (natD (D0 i64))).1 : Int) ∧ ((Go.Sort.medianAdjacent Go.Sort.ltInt (arr l.list) (natD (D.I (IntKind.i64.wrap (a.int + IntKind.i64.wrap (IntKind.i64.wrap ((IntKind.i64.wrap (b.int - a.int)).tdiv 4) * 1))))) (natD (D0 i64))).1 : Int) < l.list.length ∧ 0 ≤ ((Go.Sort.medianAdjacent Go.Sort.ltInt (arr l.list) (natD (D.I (IntKind.i64.wrap (a.int + IntKind.i64.wrap (IntKind.i64.wrap ((IntKind.i64.wrap (b.int - a.int)).tdiv 4) * 2))))) (natD (sAdj.box [l, .I (IntKind.i64.wrap (a.int + IntKind.i64.wrap (IntKind.i64.wrap ((IntKind.i64.wrap (b.int - a.int)).tdiv 4) * 1)))] (D0 i64)))).1 : Int) ∧ ((Go.Sort.medianAdjacent Go.Sort.ltInt (arr l.list) (natD (D.I (IntKind.i64.wrap (a.int + IntKind.i64.wrap (IntKind.i64.wrap ((IntKind.i64.wrap (b.int - a.int)).tdiv 4) * 2))))) (natD (sAdj.box [l, .I (IntKind.i64.wrap (a.int + IntKind.i64.wrap (IntKind.i64.wrap ((IntKind.i64.wrap (b.int - a.int)).tdiv 4) * 1)))] (D0 i64)))).1 : Int) < l.list.length ∧ 0 ≤ ((Go.Sort.medianAdjacent Go.Sort.ltInt (arr l.list) (natD (D.I (IntKind.i64.wrap (a.int + IntKind.i64.wrap (IntKind.i64.wrap ((IntKind.i64.wrap (b.int - a.int)).tdiv 4) * 3))))) (natD (sAdj.box [l, .I (IntKind.i64.wrap (a.int + IntKind.i64.wrap (IntKind.i64.wrap ((IntKind.i64.wrap (b.int - a.int)).tdiv 4) * 2)))] (sAdj.box [l, .I (IntKind.i64.wrap (a.int + IntKind.i64.wrap (IntKind.i64.wrap ((IntKind.i64.wrap (b.int - a.int)).tdiv 4) * 1)))] (D0 i64))))).1 : Int) ∧ ((Go.Sort.medianAdjacent Go.Sort.ltInt (arr l.list) (natD (D.I (IntKind.i64.wrap (a.int + IntKind.i64.wrap (IntKind.i64.wrap ((IntKind.i64.wrap (b.int - a.int)).tdiv 4) * 3))))) (natD (sAdj.box [l, .I (IntKind.i64.wrap (a.int + IntKind.i64.wrap (IntKind.i64.wrap ((IntKind.i64.wrap (b.int - a.int)).tdiv 4) * 2)))] (sAdj.box [l, .I (IntKind.i64.wrap (a.int + IntKind.i64.wrap (IntKind.i64.wrap ((IntKind.i64.wrap (b.int - a.int)).tdiv 4) * 1)))] (D0 i64))))).1 : Int) < l.list.length ∧ 0 ≤ (sAdj.box [l, .I (IntKind.i64.wrap (a.int + IntKind.i64.wrap (IntKind.i64.wrap ((IntKind.i64.wrap (b.int - a.int)).tdiv 4) * 3)))] (sAdj.box [l, .I (IntKind.i64.wrap (a.int + IntKind.i64.wrap (IntKind.i64.wrap ((IntKind.i64.wrap (b.int - a.int)).tdiv 4) * 2)))] (sAdj.box [l, .I (IntKind.i64.wrap (a.int + IntKind.i64.wrap (IntKind.i64.wrap ((IntKind.i64.wrap (b.int - a.int)).tdiv 4) * 1)))] (D0 i64)))).int ∧ (sAdj.box [l, .I (IntKind.i64.wrap (a.int + IntKind.i64.wrap (IntKind.i64.wrap ((IntKind.i64.wrap (b.int - a.int)).tdiv 4) * 3)))] (sAdj.box [l, .I (IntKind.i64.wrap (a.int + IntKind.i64.wrap (IntKind.i64.wrap ((IntKind.i64.wrap (b.int - a.int)).tdiv 4) * 2)))] (sAdj.box [l, .I (IntKind.i64.wrap (a.int + IntKind.i64.wrap (IntKind.i64.wrap ((IntKind.i64.wrap (b.int - a.int)).tdiv 4) * 1)))] (D0 i64)))).int ≤ 100
        rw [v1, v2, v3, q3]
        omega
      refine ⟨fun h3 => ⟨Bears.int ?_, Bears.int ?_, trivial⟩, fun h3 => ⟨fun h4 => ⟨Bears.int ?_, Bears.int ?_, trivial⟩, fun h4 => ⟨Bears.int ?_, Bears.int ?_, trivial⟩⟩⟩
      · exact V.1.trans (by rw [hc]; rfl)
      · have h3 : ((Go.Sort.median Go.Sort.ltInt (arr l.list) (Go.Sort.medianAdjacent Go.Sort.ltInt (arr l.list) I 0).1 (Go.Sort.medianAdjacent Go.Sort.ltInt (arr l.list) J (Go.Sort.medianAdjacent Go.Sort.ltInt (arr l.list) I 0).2).1 (Go.Sort.medianAdjacent Go.Sort.ltInt (arr l.list) K (Go.Sort.medianAdjacent Go.Sort.ltInt (arr l.list) J (Go.Sort.medianAdjacent Go.Sort.ltInt (arr l.list) I 0).2).2).1 (Go.Sort.medianAdjacent Go.Sort.ltInt (arr l.list) K (Go.Sort.medianAdjacent Go.Sort.ltInt (arr l.list) J (Go.Sort.medianAdjacent Go.Sort.ltInt (arr l.list) I 0).2).2).2).2 : Int) = 0 := by have h := (congrArg (· == (0 : Int)) V.2).symm.trans h3; simpa using h
        show (1 : Int) = hcode (Go.Sort.choosePivot Go.Sort.ltInt (arr l.list) (natD a) (natD b)).2
        rw [hc]
        show (1 : Int) = hcode (if (Go.Sort.median Go.Sort.ltInt (arr l.list) (Go.Sort.medianAdjacent Go.Sort.ltInt (arr l.list) I 0).1 (Go.Sort.medianAdjacent Go.Sort.ltInt (arr l.list) J (Go.Sort.medianAdjacent Go.Sort.ltInt (arr l.list) I 0).2).1 (Go.Sort.medianAdjacent Go.Sort.ltInt (arr l.list) K (Go.Sort.medianAdjacent Go.Sort.ltInt (arr l.list) J (Go.Sort.medianAdjacent Go.Sort.ltInt (arr l.list) I 0).2).2).1 (Go.Sort.medianAdjacent Go.Sort.ltInt (arr l.list) K (Go.Sort.medianAdjacent Go.Sort.ltInt (arr l.list) J (Go.Sort.medianAdjacent Go.Sort.ltInt (arr l.list) I 0).2).2).2).2 = 0 then Go.Sort.Hint.increasing else if (Go.Sort.median Go.Sort.ltInt (arr l.list) (Go.Sort.medianAdjacent Go.Sort.ltInt (arr l.list) I 0).1 (Go.Sort.medianAdjacent Go.Sort.ltInt (arr l.list) J (Go.Sort.medianAdjacent Go.Sort.ltInt (arr l.list) I 0).2).1 (Go.Sort.medianAdjacent Go.Sort.ltInt (arr l.list) K (Go.Sort.medianAdjacent Go.Sort.ltInt (arr l.list) J (Go.Sort.medianAdjacent Go.Sort.ltInt (arr l.list) I 0).2).2).1 (Go.Sort.medianAdjacent Go.Sort.ltInt (arr l.list) K (Go.Sort.medianAdjacent Go.Sort.ltInt (arr l.list) J (Go.Sort.medianAdjacent Go.Sort.ltInt (arr l.list) I 0).2).2).2).2 = 12 then .decreasing else .unknown)
        rw [if_pos (by omega)]; rfl
      · exact V.1.trans (by rw [hc]; rfl)
      · have h3 : ¬ ((Go.Sort.median Go.Sort.ltInt (arr l.list) (Go.Sort.medianAdjacent Go.Sort.ltInt (arr l.list) I 0).1 (Go.Sort.medianAdjacent Go.Sort.ltInt (arr l.list) J (Go.Sort.medianAdjacent Go.Sort.ltInt (arr l.list) I 0).2).1 (Go.Sort.medianAdjacent Go.Sort.ltInt (arr l.list) K (Go.Sort.medianAdjacent Go.Sort.ltInt (arr l.list) J (Go.Sort.medianAdjacent Go.Sort.ltInt (arr l.list) I 0).2).2).1 (Go.Sort.medianAdjacent Go.Sort.ltInt (arr l.list) K (Go.Sort.medianAdjacent Go.Sort.ltInt (arr l.list) J (Go.Sort.medianAdjacent Go.Sort.ltInt (arr l.list) I 0).2).2).2).2 : Int) = 0 := by have h := (congrArg (· == (0 : Int)) V.2).symm.trans h3; simpa using h
        have h4 : ((Go.Sort.median Go.Sort.ltInt (arr l.list) (Go.Sort.medianAdjacent Go.Sort.ltInt (arr l.list) I 0).1 (Go.Sort.medianAdjacent Go.Sort.ltInt (arr l.list) J (Go.Sort.medianAdjacent Go.Sort.ltInt (arr l.list) I 0).2).1 (Go.Sort.medianAdjacent Go.Sort.ltInt (arr l.list) K (Go.Sort.medianAdjacent Go.Sort.ltInt (arr l.list) J (Go.Sort.medianAdjacent Go.Sort.ltInt (arr l.list) I 0).2).2).1 (Go.Sort.medianAdjacent Go.Sort.ltInt (arr l.list) K (Go.Sort.medianAdjacent Go.Sort.ltInt (arr l.list) J (Go.Sort.medianAdjacent Go.Sort.ltInt (arr l.list) I 0).2).2).2).2 : Int) = 12 := by have h := (congrArg (· == (12 : Int)) V.2).symm.trans h4; simpa using h
        show (2 : Int) = hcode (Go.Sort.choosePivot Go.Sort.ltInt (arr l.list) (natD a) (natD b)).2
        rw [hc]
        show (2 : Int) = hcode (if (Go.Sort.median Go.Sort.ltInt (arr l.list) (Go.Sort.medianAdjacent Go.Sort.ltInt (arr l.list) I 0).1 (Go.Sort.medianAdjacent Go.Sort.ltInt (arr l.list) J (Go.Sort.medianAdjacent Go.Sort.ltInt (arr l.list) I 0).2).1 (Go.Sort.medianAdjacent Go.Sort.ltInt (arr l.list) K (Go.Sort.medianAdjacent Go.Sort.ltInt (arr l.list) J (Go.Sort.medianAdjacent Go.Sort.ltInt (arr l.list) I 0).2).2).1 (Go.Sort.medianAdjacent Go.Sort.ltInt (arr l.list) K (Go.Sort.medianAdjacent Go.Sort.ltInt (arr l.list) J (Go.Sort.medianAdjacent Go.Sort.ltInt (arr l.list) I 0).2).2).2).2 = 0 then Go.Sort.Hint.increasing else if (Go.Sort.median Go.Sort.ltInt (arr l.list) (Go.Sort.medianAdjacent Go.Sort.ltInt (arr l.list) I 0).1 (Go.Sort.medianAdjacent Go.Sort.ltInt (arr l.list) J (Go.Sort.medianAdjacent Go.Sort.ltInt (arr l.list) I 0).2).1 (Go.Sort.medianAdjacent Go.Sort.ltInt (arr l.list) K (Go.Sort.medianAdjacent Go.Sort.ltInt (arr l.list) J (Go.Sort.medianAdjacent Go.Sort.ltInt (arr l.list) I 0).2).2).1 (Go.Sort.medianAdjacent Go.Sort.ltInt (arr l.list) K (Go.Sort.medianAdjacent Go.Sort.ltInt (arr l.list) J (Go.Sort.medianAdjacent Go.Sort.ltInt (arr l.list) I 0).2).2).2).2 = 12 then .decreasing else .unknown)
        rw [if_neg (by omega), if_pos (by omega)]; rfl
      · exact V.1.trans (by rw [hc]; rfl)
      · have h3 : ¬ ((Go.Sort.median Go.Sort.ltInt (arr l.list) (Go.Sort.medianAdjacent Go.Sort.ltInt (arr l.list) I 0).1 (Go.Sort.medianAdjacent Go.Sort.ltInt (arr l.list) J (Go.Sort.medianAdjacent Go.Sort.ltInt (arr l.list) I 0).2).1 (Go.Sort.medianAdjacent Go.Sort.ltInt (arr l.list) K (Go.Sort.medianAdjacent Go.Sort.ltInt (arr l.list) J (Go.Sort.medianAdjacent Go.Sort.ltInt (arr l.list) I 0).2).2).1 (Go.Sort.medianAdjacent Go.Sort.ltInt (arr l.list) K (Go.Sort.medianAdjacent Go.Sort.ltInt (arr l.list) J (Go.Sort.medianAdjacent Go.Sort.ltInt (arr l.list) I 0).2).2).2).2 : Int) = 0 := by have h := (congrArg (· == (0 : Int)) V.2).symm.trans h3; simpa using h
        have h4 : ¬ ((Go.Sort.median Go.Sort.ltInt (arr l.list) (Go.Sort.medianAdjacent Go.Sort.ltInt (arr l.list) I 0).1 (Go.Sort.medianAdjacent Go.Sort.ltInt (arr l.list) J (Go.Sort.medianAdjacent Go.Sort.ltInt (arr l.list) I 0).2).1 (Go.Sort.medianAdjacent Go.Sort.ltInt (arr l.list) K (Go.Sort.medianAdjacent Go.Sort.ltInt (arr l.list) J (Go.Sort.medianAdjacent Go.Sort.ltInt (arr l.list) I 0).2).2).1 (Go.Sort.medianAdjacent Go.Sort.ltInt (arr l.list) K (Go.Sort.medianAdjacent Go.Sort.ltInt (arr l.list) J (Go.Sort.medianAdjacent Go.Sort.ltInt (arr l.list) I 0).2).2).2).2 : Int) = 12 := by have h := (congrArg (· == (12 : Int)) V.2).symm.trans h4; simpa using h
        show (0 : Int) = hcode (Go.Sort.choosePivot Go.Sort.ltInt (arr l.list) (natD a) (natD b)).2
        rw [hc]
        show (0 : Int) = hcode (if (Go.Sort.median Go.Sort.ltInt (arr l.list) (Go.Sort.medianAdjacent Go.Sort.ltInt (arr l.list) I 0).1 (Go.Sort.medianAdjacent Go.Sort.ltInt (arr l.list) J (Go.Sort.medianAdjacent Go.Sort.ltInt (arr l.list) I 0).2).1 (Go.Sort.medianAdjacent Go.Sort.ltInt (arr l.list) K (Go.Sort.medianAdjacent Go.Sort.ltInt (arr l.list) J (Go.Sort.medianAdjacent Go.Sort.ltInt (arr l.list) I 0).2).2).1 (Go.Sort.medianAdjacent Go.Sort.ltInt (arr l.list) K (Go.Sort.medianAdjacent Go.Sort.ltInt (arr l.list) J (Go.Sort.medianAdjacent Go.Sort.ltInt (arr l.list) I 0).2).2).2).2 = 0 then Go.Sort.Hint.increasing else if (Go.Sort.median Go.Sort.ltInt (arr l.list) (Go.Sort.medianAdjacent Go.Sort.ltInt (arr l.list) I 0).1 (Go.Sort.medianAdjacent Go.Sort.ltInt (arr l.list) J (Go.Sort.medianAdjacent Go.Sort.ltInt (arr l.list) I 0).2).1 (Go.Sort.medianAdjacent Go.Sort.ltInt (arr l.list) K (Go.Sort.medianAdjacent Go.Sort.ltInt (arr l.list) J (Go.Sort.medianAdjacent Go.Sort.ltInt (arr l.list) I 0).2).2).1 (Go.Sort.medianAdjacent Go.Sort.ltInt (arr l.list) K (Go.Sort.medianAdjacent Go.Sort.ltInt (arr l.list) J (Go.Sort.medianAdjacent Go.Sort.ltInt (arr l.list) I 0).2).2).2).2 = 12 then .decreasing else .unknown)
        rw [if_neg (by omega), if_neg (by omega)]; rfl
    · replace h2 : leB 50 (IntKind.i64.wrap (b.int - a.int)) = false := h2
      rw [wL, leB_false] at h2
      have hc : Go.Sort.choosePivot Go.Sort.ltInt (arr l.list) (natD a) (natD b) = ((Go.Sort.median Go.Sort.ltInt (arr l.list) I J K 0).1, (if (Go.Sort.median Go.Sort.ltInt (arr l.list) I J K 0).2 = 0 then Go.Sort.Hint.increasing else if (Go.Sort.median Go.Sort.ltInt (arr l.list) I J K 0).2 = 12 then .decreasing else .unknown)) := by
        rw [hA', hB', Go.Sort.choosePivot]
        simp only [← hL, if_pos (show L ≥ 8 by omega), if_neg (show ¬ L ≥ 50 by omega), ← hI, ← hJ, ← hK]
      have V : ((Go.Sort.median Go.Sort.ltInt (arr l.list) (natD (D.I (IntKind.i64.wrap (a.int + IntKind.i64.wrap (IntKind.i64.wrap ((IntKind.i64.wrap (b.int - a.int)).tdiv 4) * 1))))) (natD (D.I (IntKind.i64.wrap (a.int + IntKind.i64.wrap (IntKind.i64.wrap ((IntKind.i64.wrap (b.int - a.int)).tdiv 4) * 2))))) (natD (D.I (IntKind.i64.wrap (a.int + IntKind.i64.wrap (IntKind.i64.wrap ((IntKind.i64.wrap (b.int - a.int)).tdiv 4) * 3))))) (natD (D0 i64))).1 : Int) = ((Go.Sort.median Go.Sort.ltInt (arr l.list) I J K 0).1 : Int) ∧ (sMed.box [l, D.I (IntKind.i64.wrap (a.int + IntKind.i64.wrap (IntKind.i64.wrap ((IntKind.i64.wrap (b.int - a.int)).tdiv 4) * 1))), D.I (IntKind.i64.wrap (a.int + IntKind.i64.wrap (IntKind.i64.wrap ((IntKind.i64.wrap (b.int - a.int)).tdiv 4) * 2))), D.I (IntKind.i64.wrap (a.int + IntKind.i64.wrap (IntKind.i64.wrap ((IntKind.i64.wrap (b.int - a.int)).tdiv 4) * 3)))] (D0 i64)).int = ((Go.Sort.median Go.Sort.ltInt (arr l.list) I J K 0).2 : Int) := by
        refine ⟨by rw [n1, n2, n3]; rfl, ?_⟩
        show ((Go.Sort.median Go.Sort.ltInt (arr l.list) (natD (D.I (IntKind.i64.wrap (a.int + IntKind.i64.wrap (IntKind.i64.wrap ((IntKind.i64.wrap (b.int - a.int)).tdiv 4) * 1))))) (natD (D.I (IntKind.i64.wrap (a.int + IntKind.i64.wrap (IntKind.i64.wrap ((IntKind.i64.wrap (b.int - a.int)).tdiv 4) * 2))))) (natD (D.I (IntKind.i64.wrap (a.int + IntKind.i64.wrap (IntKind.i64.wrap ((IntKind.i64.wrap (b.int - a.int)).tdiv 4) * 3))))) (natD (D0 i64))).2 : Int) = _
        rw [n1, n2, n3]; rfl
      refine ⟨?_, ?_⟩
      · show 0 ≤ IntKind.i64.wrap (a.int + IntKind.i64.wrap (IntKind.i64.wrap ((IntKind.i64.wrap (b.int - a.int)).tdiv 4) * 1)) ∧ IntKind.i64.wrap (a.int + IntKind.i64.wrap (IntKind.i64.wrap ((IntKind.i64.wrap (b.int - a.int)).tdiv 4) * 1)) < l.list.length ∧ 0 ≤ IntKind.i64.wrap (a.int + IntKind.i64.wrap (IntKind.i64.wrap ((IntKind.i64.wrap (b.int - a.int)).tdiv 4) * 2)) ∧ IntKind.i64.wrap (a.int + IntKind.i64.wrap (IntKind.i64.wrap ((IntKind.i64.wrap (b.int - a.int)).tdiv 4) * 2)) < l.list.length ∧ 0 ≤ IntKind.i64.wrap (a.int + IntKind.i64.wrap (IntKind.i64.wrap ((IntKind.i64.wrap (b.int - a.int)).tdiv 4) * 3)) ∧ IntKind.i64.wrap (a.int + IntKind.i64.wrap (IntKind.i64.wrap ((IntKind.i64.wrap (b.int - a.int)).tdiv 4) * 3)) < l.list.length ∧ (0 : Int) ≤ 0 ∧ (0 : Int) ≤ 100
        rw [w1, w2, w3]
        omega
      refine ⟨fun h3 => ⟨Bears.int ?_, Bears.int ?_, trivial⟩, fun h3 => ⟨fun h4 => ⟨Bears.int ?_, Bears.int ?_, trivial⟩, fun h4 => ⟨Bears.int ?_, Bears.int ?_, trivial⟩⟩⟩
      · exact V.1.trans (by rw [hc]; rfl)
      · have h3 : ((Go.Sort.median Go.Sort.ltInt (arr l.list) I J K 0).2 : Int) = 0 := by have h := (congrArg (· == (0 : Int)) V.2).symm.trans h3; simpa using h
        show (1 : Int) = hcode (Go.Sort.choosePivot Go.Sort.ltInt (arr l.list) (natD a) (natD b)).2
        rw [hc]
        show (1 : Int) = hcode (if (Go.Sort.median Go.Sort.ltInt (arr l.list) I J K 0).2 = 0 then Go.Sort.Hint.increasing else if (Go.Sort.median Go.Sort.ltInt (arr l.list) I J K 0).2 = 12 then .decreasing else .unknown)
        rw [if_pos (by omega)]; rfl
      · exact V.1.trans (by rw [hc]; rfl)
      · have h3 : ¬ ((Go.Sort.median Go.Sort.ltInt (arr l.list) I J K 0).2 : Int) = 0 := by have h := (congrArg (· == (0 : Int)) V.2).symm.trans h3; simpa using h
        have h4 : ((Go.Sort.median Go.Sort.ltInt (arr l.list) I J K 0).2 : Int) = 12 := by have h := (congrArg (· == (12 : Int)) V.2).symm.trans h4; simpa using h
        show (2 : Int) = hcode (Go.Sort.choosePivot Go.Sort.ltInt (arr l.list) (natD a) (natD b)).2
        rw [hc]
        show (2 : Int) = hcode (if (Go.Sort.median Go.Sort.ltInt (arr l.list) I J K 0).2 = 0 then Go.Sort.Hint.increasing else if (Go.Sort.median Go.Sort.ltInt (arr l.list) I J K 0).2 = 12 then .decreasing else .unknown)
        rw [if_neg (by omega), if_pos (by omega)]; rfl
      · exact V.1.trans (by rw [hc]; rfl)
      · have h3 : ¬ ((Go.Sort.median Go.Sort.ltInt (arr l.list) I J K 0).2 : Int) = 0 := by have h := (congrArg (· == (0 : Int)) V.2).symm.trans h3; simpa using h
        have h4 : ¬ ((Go.Sort.median Go.Sort.ltInt (arr l.list) I J K 0).2 : Int) = 12 := by have h := (congrArg (· == (12 : Int)) V.2).symm.trans h4; simpa using h
        show (0 : Int) = hcode (Go.Sort.choosePivot Go.Sort.ltInt (arr l.list) (natD a) (natD b)).2
        rw [hc]
        show (0 : Int) = hcode (if (Go.Sort.median Go.Sort.ltInt (arr l.list) I J K 0).2 = 0 then Go.Sort.Hint.increasing else if (Go.Sort.median Go.Sort.ltInt (arr l.list) I J K 0).2 = 12 then .decreasing else .unknown)
        rw [if_neg (by omega), if_neg (by omega)]; rfl
  · replace h1 : leB 8 (IntKind.i64.wrap (b.int - a.int)) = false := h1
    rw [wL, leB_false] at h1
    have hc : Go.Sort.choosePivot Go.Sort.ltInt (arr l.list) (natD a) (natD b) = (J, .increasing) := by
      rw [hA', hB', Go.Sort.choosePivot]
      simp only [← hL, if_neg (show ¬ L ≥ 8 by omega), ← hJ]
      rfl
    refine ⟨fun h3 => ⟨Bears.int ?_, Bears.int ?_, trivial⟩, fun h3 => (by cases h3)⟩
    · exact w2.trans (by rw [hc]; rfl)
    · show (1 : Int) = hcode (Go.Sort.choosePivot Go.Sort.ltInt (arr l.list) (natD a) (natD b)).2
      rw [hc]; rfl
end Go.Proofs.Ytmcgebhffdedpaa
