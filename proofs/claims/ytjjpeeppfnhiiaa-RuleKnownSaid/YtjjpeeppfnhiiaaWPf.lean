/- Accounts of rules: the reference's labels to which one can come; lists that are compared. -/
import Derived.Test.YtjjpeeppfnhiiaaWPe
namespace Go.Proofs.Ytjjpeeppfnhiiaa
open Go Go.Vm
set_option linter.unusedSimpArgs false
set_option linter.unusedVariables false
set_option maxRecDepth 10000
def sHasU : Sum := ⟨[.slice u64, u64], fun _ => none, fun
  | [l, n] => .dat .bool (.B (hasI l.list n.int))
  | _ => .und⟩
theorem hasI_at {l : List D} {n : Int} {i : Nat} (hk : i < l.length) (h : ((l.getD i .Z).int == n) = true) : hasI l n = true := by
  rw [hasI, List.any_eq_true]
  refine ⟨l[i], List.getElem_mem hk, ?_⟩
  rwa [List.getD_eq_getElem?_getD, List.getElem?_eq_getElem hk] at h
theorem hasI_no {l : List D} {n : Int} (h : ∀ k, k < l.length → ((l.getD k .Z).int == n) = false) : hasI l n = false := by
  rw [hasI, List.any_eq_false]
  intro d hd
  obtain ⟨k, hk, rfl⟩ := List.getElem_of_mem hd
  have := h k hk
  rw [List.getD_eq_getElem?_getD, List.getElem?_eq_getElem hk] at this
  simpa using this
theorem hasU_fun : FunOK c0K 60 Try.f52 sHasU := fun l hl n hn _ => by
  simp only [InR] at hl
  have hl := hl.1
  refine ⟨{ i : Nat // i ≤ l.list.length ∧ ∀ k, k < i → ((l.list.getD k .Z).int == n.int) = false }, 0, fun i => ([(5, .dat i64 (.I i.1)), (0, .dat (.slice u64) l), (1, .dat u64 (.I n.int))], []), fun i => l.list.length - i.1,
    ⟨0, by omega, fun k h => by omega⟩, ⟨[], rfl, ⟨rfl, rfl, rfl, trivial⟩, trivial⟩, ?_⟩
  intro x
  obtain ⟨i, hi, h0⟩ := x
  refine ⟨fun h1 => ⟨ix (ltN h1), fun h2 => Bears.bool (hasI_at (ltN h1) h2).symm, fun h2 => ?_⟩, fun h1 => Bears.bool (hasI_no fun k hk => h0 k (by have := geN hi h1; omega)).symm⟩
  have this : i < l.list.length := ltN h1
  exact ⟨⟨i + 1, this, upto h0 h2⟩, ⟨[], rfl, ⟨slot (i64_1 (n := i) (by omega)), rfl, rfl, trivial⟩, trivial⟩, Nat.sub_lt_sub_left this (Nat.lt_succ_self i)⟩
theorem hasL_fun : FunOK c0K 60 Try.f25 sHasU := @hasU_fun
def sameI (a b : List D) : Bool := a.length == b.length && (List.range a.length).all fun j => (a.getD j .Z).int == (b.getD j .Z).int
theorem sameI_rfl (a : List D) : sameI a a = true := by simp [sameI]
def sSameI (s : Sh) : Sum := ⟨[.slice s, .slice s], fun _ => none, fun
  | [a, b] => .dat .bool (.B (sameI a.list b.list))
  | _ => .und⟩
theorem sameInts_fun : FunOK c0K 60 Try.f31 (sSameI i64) := fun a ha b hb _ => by
  simp only [InR] at ha hb
  have ha := ha.1
  have hb := hb.1
  refine ⟨fun h1 => Bears.bool ?_, fun h1 => ?_⟩
  all_goals replace h1 : ((a.list.length : Int) != (b.list.length : Int)) = _ := h1
  · show false = sameI a.list b.list
    simp only [bne_iff_ne, ne_eq, Int.natCast_inj] at h1
    simp only [sameI, beq_eq_false_iff_ne.mpr h1, Bool.false_and]
  simp only [bne_eq_false_iff_eq, Int.natCast_inj] at h1
  refine ⟨{ i : Nat // i ≤ a.list.length ∧ ∀ k, k < i → ((a.list.getD k .Z).int == (b.list.getD k .Z).int) = true }, 0, fun i => ([(5, .dat i64 (.I i.1)), (0, .dat (.slice i64) a), (1, .dat (.slice i64) b)], []), fun i => a.list.length - i.1,
    ⟨0, by omega, fun k h => by omega⟩, ⟨[], rfl, ⟨rfl, rfl, rfl, trivial⟩, trivial⟩, ?_⟩
  intro x
  obtain ⟨i, hi, h0⟩ := x
  have hlt : ltB (i : Int) (a.list.length : Int) = true → i < a.list.length := ltN
  have hge : ltB (i : Int) (a.list.length : Int) = false → i = a.list.length := geN hi
  refine ⟨fun h2 => ⟨ix (hlt h2), (by have := hlt h2; exact ix (h1 ▸ this)), by kernel_rfl, fun h3 => Bears.bool ?_, fun h3 => ?_⟩, fun h2 => Bears.bool ?_⟩
  · replace h3 : ((a.list.getD i .Z).int != (b.list.getD i .Z).int) = true := h3
    show false = sameI a.list b.list
    rw [sameI, not_all_range (hlt h2) (by simpa [bne] using h3), Bool.and_false]
  · replace h3 : ((a.list.getD i .Z).int != (b.list.getD i .Z).int) = false := h3
    have := hlt h2
    exact ⟨⟨i + 1, this, upto h0 (by simpa [bne] using h3)⟩, ⟨[], rfl, ⟨slot (i64_1 (n := i) (by omega)), rfl, rfl, trivial⟩, trivial⟩, Nat.sub_lt_sub_left this (Nat.lt_succ_self i)⟩
  · have e := hge h2
    show true = sameI a.list b.list
    rw [sameI, all_range (fun k hk => h0 k (by omega)), h1]; simp
theorem sameU_fun : FunOK c0K 60 Try.f24 (sSameI u64) := fun a ha b hb _ => by
  simp only [InR] at ha hb
  have ha := ha.1
  have hb := hb.1
  refine ⟨fun h1 => Bears.bool ?_, fun h1 => ?_⟩
  all_goals replace h1 : ((a.list.length : Int) != (b.list.length : Int)) = _ := h1
  · show false = sameI a.list b.list
    simp only [bne_iff_ne, ne_eq, Int.natCast_inj] at h1
    simp only [sameI, beq_eq_false_iff_ne.mpr h1, Bool.false_and]
  simp only [bne_eq_false_iff_eq, Int.natCast_inj] at h1
  refine ⟨{ i : Nat // i ≤ a.list.length ∧ ∀ k, k < i → ((a.list.getD k .Z).int == (b.list.getD k .Z).int) = true }, 0, fun i => ([(5, .dat i64 (.I i.1)), (0, .dat (.slice u64) a), (1, .dat (.slice u64) b)], []), fun i => a.list.length - i.1,
    ⟨0, by omega, fun k h => by omega⟩, ⟨[], rfl, ⟨rfl, rfl, rfl, trivial⟩, trivial⟩, ?_⟩
  intro x
  obtain ⟨i, hi, h0⟩ := x
  have hlt : ltB (i : Int) (a.list.length : Int) = true → i < a.list.length := ltN
  have hge : ltB (i : Int) (a.list.length : Int) = false → i = a.list.length := geN hi
  refine ⟨fun h2 => ⟨ix (hlt h2), (by have := hlt h2; exact ix (h1 ▸ this)), by kernel_rfl, fun h3 => Bears.bool ?_, fun h3 => ?_⟩, fun h2 => Bears.bool ?_⟩
  · replace h3 : ((a.list.getD i .Z).int != (b.list.getD i .Z).int) = true := h3
    show false = sameI a.list b.list
    rw [sameI, not_all_range (hlt h2) (by simpa [bne] using h3), Bool.and_false]
  · replace h3 : ((a.list.getD i .Z).int != (b.list.getD i .Z).int) = false := h3
    have := hlt h2
    exact ⟨⟨i + 1, this, upto h0 (by simpa [bne] using h3)⟩, ⟨[], rfl, ⟨slot (i64_1 (n := i) (by omega)), rfl, rfl, trivial⟩, trivial⟩, Nat.sub_lt_sub_left this (Nat.lt_succ_self i)⟩
  · have e := hge h2
    show true = sameI a.list b.list
    rw [sameI, all_range (fun k hk => h0 k (by omega)), h1]; simp
theorem nums_get {l : List Int} {i : Nat} (h : i < l.length) : (nums l).getD i .Z = .I (l.getD i 0) := by
  simp [nums, List.getD_eq_getElem?_getD, List.getElem?_eq_getElem h]
theorem hasI_nums (l : List Int) (n : Int) : hasI (nums l) n = l.contains n := by
  rw [hasI, nums, List.any_map, List.contains_eq_any_beq]
  congr 1; funext y
  show (y == n) = (n == y)
  rw [Bool.eq_iff_iff, beq_iff_eq, beq_iff_eq]; exact eq_comm
theorem getD_app {l m : List Int} {i : Nat} (h : i < l.length) : (l ++ m).getD i 0 = l.getD i 0 := by
  simp [List.getD_eq_getElem?_getD, List.getElem?_append_left h]
theorem nums_app (l : List Int) (n : Int) : nums l ++ [.I n] = nums (l ++ [n]) := by simp [nums]
theorem nums_len (l : List Int) : (nums l).length = l.length := by simp [nums]
theorem sameL_int {k : IntKind} {l m : List D} (h : ints l = ints m) : Same (.slice (.int k)) (.L l) (.L m) := by
  have hl : l.length = m.length := by rw [← ints_len l, ← ints_len m, h]
  simp only [Same]
  refine ⟨hl, fun j hj => ?_⟩
  have hj : j < l.length := hj
  show (l.getD j .Z).int = (m.getD j .Z).int
  rw [getD_int l j hj, getD_int m j (by omega)]
  simp only [h]
def cFlR : Ctx := ⟨tabK, [], [(29, sList), (41, sBelow), (52, sHasU)], [], keep, []⟩
theorem flowsR_fun : FunOK cFlR 100 Try.f32 sFlows := fun l hl x hx _ => by
  refine ⟨fun h1 => ⟨Bears.same (eqSame ?_), Bears.int rfl, trivial⟩, fun h1 => ?_⟩
  · replace h1 : (listF l != 0) = true := h1
    show D.L [] = D.L (flowL l x.int)
    rw [flowL, if_neg (by simpa using h1)]
  replace h1 : (listF l != 0) = false := h1
  have hl0 : listF l = 0 := by simpa using h1
  have hl8 : l.list.length ≤ 8 := by
    have h1 := hl0
    rw [listF] at h1
    split at h1
    · cases h1
    · omega
  refine ⟨{ s : Nat × List Int // s.1 ≤ s.2.length ∧ Good l.list x.int s.2 ∧ ∀ j, j < s.1 → ∀ k, k < l.list.length → belowB (s.2.getD j 0) (rA (l.list.getD k .Z)) = true → rR (l.list.getD k .Z) ∈ s.2 }, 3, fun s => ([(8, .dat i64 (.I s.1.1)), (7, .own 2 u64), (0, .dat (.slice ruleS) l)], [(2, .grow u64 (nums s.1.2))]), fun s => 10 - s.1.1,
    ⟨(0, [x.int]), by simp, good_one _ _, fun j h => by omega⟩, ⟨[(2, 1)], rfl, ⟨rfl, rfl, rfl, trivial⟩, ⟨rfl, trivial⟩⟩, ?_⟩
  intro y
  obtain ⟨⟨i, R⟩, hi, hR, hC⟩ := y
  simp only at hi hR hC
  have hlenR := hR.len
  refine ⟨fun h1 => ?_, fun h1 => ?_⟩
  · have hi' : i < R.length := by have : i < (nums R).length := ltN h1; rwa [nums_len] at this
    refine ⟨{ s : Nat × List Int // s.1 ≤ l.list.length ∧ i < s.2.length ∧ Good l.list x.int s.2 ∧ (∀ j, j < i → ∀ k, k < l.list.length → belowB (s.2.getD j 0) (rA (l.list.getD k .Z)) = true → rR (l.list.getD k .Z) ∈ s.2) ∧ ∀ k, k < s.1 → belowB (s.2.getD i 0) (rA (l.list.getD k .Z)) = true → rR (l.list.getD k .Z) ∈ s.2 }, 4,
      fun s => ([(9, .dat i64 (.I s.1.1)), (8, .dat i64 (.I i)), (7, .own 3 u64), (0, .dat (.slice ruleS) l)], [(3, .grow u64 (nums s.1.2))]), fun s => l.list.length - s.1.1,
      ⟨(0, R), by simp, hi', hR, hC, fun k h => by omega⟩, ⟨[(3, 2)], rfl, ⟨rfl, rfl, rfl, rfl, trivial⟩, ⟨rfl, trivial⟩⟩, ?_⟩
    clear h1
    intro y
    obtain ⟨⟨k, Q⟩, hk, hiQ, hQ, hCQ, hK⟩ := y
    simp only at hk hiQ hQ hCQ hK
    have hlenQ := hQ.len
    refine ⟨fun h1 => ?_, fun h1 => ?_⟩
    · have hk1 : k < l.list.length := ltN h1
      refine ⟨ix (by rw [nums_len]; exact hiQ), ix hk1, fun h2 => ⟨(ix hk1).1, (ix hk1).2⟩, by kernel_rfl, fun h2 => ⟨ix hk1, ?_, ?_⟩, fun h2 => ?_⟩
      all_goals replace h2 : (belowB ((nums Q).getD i .Z).int (rA (l.list.getD k .Z)) && !hasI (nums Q) (rR (l.list.getD k .Z))) = _ := h2
      all_goals rw [nums_get hiQ, hasI_nums, D.int_I] at h2
      · show (nums Q).length + 1 ≤ 1073741824
        rw [nums_len]; omega
      · obtain ⟨r, hr⟩ : ∃ r, r = l.list.getD k .Z := ⟨_, rfl⟩
        have hrm : r ∈ l.list := by rw [hr, List.getD_eq_getElem?_getD, List.getElem?_eq_getElem hk1]; exact List.getElem_mem hk1
        rw [← hr] at h2
        rw [Bool.and_eq_true] at h2
        have hok : okR Q r = true := by
          rw [okR, h2.2, Bool.and_true, List.any_eq_true]
          exact ⟨Q.getD i 0, by rw [List.getD_eq_getElem?_getD, List.getElem?_eq_getElem hiQ]; exact List.getElem_mem hiQ, h2.1⟩
        refine ⟨⟨(k + 1, Q ++ [rR r]), hk1, ?_, good_step hQ hrm hok, fun j hj k' hk' hb => ?_, fun k' hk' hb => ?_⟩, ⟨[(3, 45)], rfl, ⟨slot (i64_1 (n := k) (by omega)), rfl, rfl, rfl, trivial⟩, ⟨gro ?_, trivial⟩⟩, Nat.sub_lt_sub_left hk1 (Nat.lt_succ_self k)⟩
        · show i < (Q ++ [rR r]).length
          rw [List.length_append]; omega
        · have hb : belowB ((Q ++ [rR r]).getD j 0) (rA (l.list.getD k' .Z)) = true := hb
          rw [getD_app (by omega)] at hb
          exact List.mem_append_left _ (hCQ j hj k' hk' hb)
        · have hb : belowB ((Q ++ [rR r]).getD i 0) (rA (l.list.getD k' .Z)) = true := hb
          rw [getD_app hiQ] at hb
          have hk' : k' < k + 1 := hk'
          rcases Nat.lt_or_eq_of_le (Nat.le_of_lt_succ hk') with h | e
          · exact List.mem_append_left _ (hK k' h hb)
          · subst e; rw [← hr]; exact List.mem_append_right _ (by simp)
        · show nums Q ++ [.I (rR (l.list.getD k .Z))] = nums (Q ++ [rR r])
          rw [nums_app, hr]
      · refine ⟨⟨(k + 1, Q), hk1, hiQ, hQ, hCQ, fun k' hk' hb => ?_⟩, ⟨[], rfl, ⟨slot (i64_1 (n := k) (by omega)), rfl, rfl, rfl, trivial⟩, ⟨rfl, trivial⟩⟩, Nat.sub_lt_sub_left hk1 (Nat.lt_succ_self k)⟩
        have hk' : k' < k + 1 := hk'
        rcases Nat.lt_or_eq_of_le (Nat.le_of_lt_succ hk') with h | e
        · exact hK k' h hb
        · subst e
          have hb : belowB (Q.getD i 0) (rA (l.list.getD k' .Z)) = true := hb
          rw [hb, Bool.true_and, Bool.not_eq_false', List.contains_eq_mem, decide_eq_true_eq] at h2
          exact h2
    · have hkl : k = l.list.length := geN hk h1
      refine ⟨⟨(i + 1, Q), hiQ, hQ, fun j hj k' hk' hb => ?_⟩, ⟨[(2, 3)], rfl, ⟨slot (i64_1 (n := i) (by omega)), rfl, rfl, trivial⟩, ⟨rfl, trivial⟩⟩, by show 10 - (i + 1) < 10 - i; omega⟩
      have hj : j < i + 1 := hj
      rcases Nat.lt_or_eq_of_le (Nat.le_of_lt_succ hj) with h | e
      · exact hCQ j h k' hk' hb
      · subst e; exact hK k' (by omega) hb
  · have hend : i = R.length := geN hi (by rw [← nums_len R]; exact h1)
    have hcl : Closed l.list R := fun r hr => by
      rw [Bool.eq_false_iff, ne_eq, okR_iff]
      rintro ⟨⟨y, hy, hb⟩, hn⟩
      obtain ⟨k, hk, rfl⟩ := List.getElem_of_mem hr
      obtain ⟨j, hj, rfl⟩ := List.getElem_of_mem hy
      have := hC j (by omega) k hk
      rw [List.getD_eq_getElem?_getD, List.getD_eq_getElem?_getD, List.getElem?_eq_getElem hk, List.getElem?_eq_getElem hj] at this
      exact hn (this hb)
    refine ⟨{ x : Nat × List D // 1 ≤ x.1 ∧ (x.1 ≤ R.length ∨ x.1 = 1) ∧ InsI (nums R) 0 R.length x.1 x.2 }, 4, fun x => ([(10, .dat i64 (.I x.1.1)), (7, .own 3 u64)], [(3, .grow u64 x.1.2)]), fun x => R.length - x.1.1,
      ⟨(1, nums R), by simp, .inr rfl, rfl, List.Perm.refl _, fun _ _ => rfl, fun a b h1 h2 h3 => by omega⟩, ⟨[(3, 2)], rfl, ⟨rfl, rfl, trivial⟩, ⟨rfl, trivial⟩⟩, ?_⟩
    intro x
    obtain ⟨⟨i, m⟩, h1, h2, hI⟩ := x
    simp only at h1 h2 hI
    have hml : m.length = R.length := hI.len.trans (nums_len R)
    refine ⟨fun h3 => ?_, fun h3 => ?_⟩
    · have hi : i < R.length := by have : i < m.length := ltN h3; omega
      clear h3
      refine ⟨{ x : Nat × List D // x.1 ≤ i ∧ InsJ (nums R) 0 R.length i x.1 x.2 }, 4, fun x => ([(11, .dat i64 (.I x.1.1)), (10, .dat i64 (.I i)), (7, .own 3 u64)], [(3, .grow u64 x.1.2)]), fun x => x.1.1,
        ⟨(i, m), by omega, hI.len, hI.perm, hI.out, fun a b k1 k2 k3 k4 => hI.sorted a b k1 k2 (by omega)⟩, ⟨[], rfl, ⟨rfl, rfl, rfl, trivial⟩, ⟨rfl, trivial⟩⟩, ?_⟩
      intro x
      obtain ⟨⟨j, m⟩, hj, hJ⟩ := x
      simp only at hj hJ
      have hmj : m.length = R.length := hJ.len.trans (nums_len R)
      have hj1 : 0 < j → IntKind.i64.wrap ((j : Int) - 1) = ((j - 1 : Nat) : Int) := fun h => by
        rw [wrap_i64 (by omega) (by omega)]; omega
      have jp : KeyCond [(68, true, ltB 0 (j : Int))] → 0 < j := fun hk => by
        have h := keyOne hk; simp only [ltB_true] at h; omega
      refine ⟨fun hk => ⟨(by show 0 ≤ (j : Int); omega), (by show (j : Int) < m.length; omega)⟩, fun hk => ⟨?_, ?_⟩, by kernel_rfl, fun h1 => ?_, fun h1 => ?_⟩
      · show 0 ≤ IntKind.i64.wrap ((j : Int) - 1)
        rw [hj1 (jp hk)]; omega
      · show IntKind.i64.wrap ((j : Int) - 1) < m.length
        rw [hj1 (jp hk)]; omega
      · replace h1 : (ltB 0 (j : Int) && ltB (m.getD j .Z).int (m.getD (IntKind.i64.wrap ((j : Int) - 1)).toNat .Z).int) = true := h1
        simp only [Bool.and_eq_true, ltB_true] at h1
        have hA : 0 < j := by omega
        have hw := hj1 hA
        have h1 := h1.2
        rw [hw, Int.toNat_natCast] at h1
        have b1 : 0 ≤ IntKind.i64.wrap ((j : Int) - 1) ∧ IntKind.i64.wrap ((j : Int) - 1) < (m.length : Int) := by rw [hw]; omega
        have b2 : 0 ≤ (j : Int) ∧ (j : Int) < (m.length : Int) := by omega
        refine ⟨b1, b2, b2, ?_, by kernel_rfl, ⟨(j - 1, (m.set j (.I (m.getD (j - 1) .Z).int)).set (j - 1) (.I (m.getD j .Z).int)), by show j - 1 ≤ i; omega, ?_⟩, ⟨[], rfl, ⟨slot hw, rfl, rfl, trivial⟩, ⟨gro ?_, trivial⟩⟩, ?_⟩
        · show 0 ≤ IntKind.i64.wrap ((j : Int) - 1) ∧ IntKind.i64.wrap ((j : Int) - 1) < ((m.set j (D.puts u64 (m.getD j .Z) [] (.I (m.getD (IntKind.i64.wrap ((j : Int) - 1)).toNat .Z).int))).length : Int)
          rw [List.length_set]; exact b1
        · have g := swap_get (l := m) (i := j) (j := j - 1) (by omega) (by omega)
          refine ⟨by simp only [List.length_set]; exact hJ.len, (swap_perm (by omega) (by omega)).trans hJ.perm, fun k hk => ?_, fun a b k1 k2 k3 k4 => ?_⟩
          · rw [g, if_neg (by omega), if_neg (by omega)]; exact hJ.out k hk
          · rw [g, g, if_neg k4]
            by_cases e1 : b = j
            · rw [if_pos e1]
              by_cases e2 : a = j - 1
              · rw [if_pos e2]; omega
              · rw [if_neg e2, if_neg (by omega)]
                exact hJ.sorted a (j - 1) k1 (by omega) (by omega) (by omega)
            · rw [if_neg e1]
              by_cases e2 : a = j - 1
              · rw [if_pos e2]
                rcases Nat.lt_or_ge b j with h | h
                · omega
                · exact hJ.sorted j b (by omega) (by omega) k3 e1
              · rw [if_neg e2]
                by_cases e3 : a = j
                · rw [if_pos e3]; exact hJ.sorted (j - 1) b (by omega) (by omega) k3 e1
                · rw [if_neg e3]; exact hJ.sorted a b k1 k2 k3 e1
        · show (m.set j (D.puts u64 (m.getD j .Z) [] (.I (m.getD (IntKind.i64.wrap ((j : Int) - 1)).toNat .Z).int))).set (IntKind.i64.wrap ((j : Int) - 1)).toNat (D.puts u64 _ [] (.I (m.getD j .Z).int)) = _
          rw [hw, Int.toNat_natCast, D.puts_nil, D.puts_nil]
        · show j - 1 < j
          omega
      · replace h1 : (ltB 0 (j : Int) && ltB (m.getD j .Z).int (m.getD (IntKind.i64.wrap ((j : Int) - 1)).toNat .Z).int) = false := h1
        refine ⟨⟨(i + 1, m), by show 1 ≤ i + 1; omega, .inl (by show i + 1 ≤ R.length; omega), hJ.len, hJ.perm, hJ.out, fun a b k1 k2 k3 => ?_⟩, ⟨[], rfl, ⟨slot (i64_1 (n := i) (by omega)), rfl, trivial⟩, ⟨rfl, trivial⟩⟩, Nat.sub_lt_sub_left hi (Nat.lt_succ_self i)⟩
        have k3 : b < i + 1 := k3
        show (m.getD a .Z).int ≤ (m.getD b .Z).int
        by_cases e : b = j
        · subst e
          rw [hj1 (by omega), Int.toNat_natCast] at h1
          simp only [Bool.and_eq_false_iff, ltB_false] at h1
          have h5 : (m.getD (b - 1) .Z).int ≤ (m.getD b .Z).int := by omega
          by_cases e2 : a = b - 1
          · subst e2; exact h5
          · have := hJ.sorted a (b - 1) k1 (by omega) (by omega) (by omega)
            omega
        · exact hJ.sorted a b k1 k2 (by omega) e
    · have h3 : ¬ i < m.length := fun h => by
        have h3 : ltB (i : Int) (m.length : Int) = false := h3
        simp only [ltB_false] at h3; omega
      refine ⟨Bears.same (sameL_int ?_), Bears.int hl0.symm, trivial⟩
      rw [segS_of (x := nums R) (a := 0) (b := R.length) (by omega) (by rw [nums_len]; omega) hI.len hI.perm (fun k hk => hI.out k hk) fun p q h4 h5 h6 => hI.sorted p q h4 h5 (by omega)]
      show ints (segS 0 R.length (nums R)) = ints (flowL l x.int)
      rw [flowL, if_pos hl0, ints_nums, ← flow_eq hR hcl (List.Perm.refl R)]
      have e : (nums R).drop 0 = nums R := rfl
      rw [segS, e, Nat.sub_zero, List.take_zero, List.nil_append]
      rw [List.take_of_length_le (by rw [nums_len]; omega), List.drop_of_length_le (by rw [nums_len]; omega), List.append_nil, ints_nums, ints_nums]
end Go.Proofs.Ytjjpeeppfnhiiaa
