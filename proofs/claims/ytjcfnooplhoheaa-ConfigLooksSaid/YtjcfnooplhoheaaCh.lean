/- Accounts of quotas, part 2. -/
import Derived.Test.YtjcfnooplhoheaaCg
namespace Go.Proofs.Ytjcfnooplhoheaa
open Go Go.Vm
set_option linter.unusedSimpArgs false
set_option maxRecDepth 10000
def sumU (r : D) : Nat → Int
  | 0 => 0
  | n + 1 => IntKind.wrap .i64 (sumU r n + usedAt r n)
def sSum : Sum := ⟨[.slice i64], fun _ => none, fun
  | [a] => .dat i64 (.I (sumU (.L [a]) a.list.length))
  | _ => .und⟩
theorem sum_fun : FunOK c0 60 Try.f77 sSum := fun a ha _ => by
  simp only [InR, InRs] at ha
  have ha := ha.1
  refine ⟨{ i : Nat // i ≤ a.list.length }, 0, fun i => ([(8, .dat i64 (.I i.1)), (7, .dat i64 (.I a.list.length)), (6, .dat (.slice i64) a), (3, .dat i64 (.I (sumU (.L [a]) i.1)))], []), fun i => a.list.length - i.1,
    ⟨0, by omega⟩, ⟨[], rfl, ⟨rfl, rfl, rfl, rfl, trivial⟩, trivial⟩, ?_⟩
  intro x
  obtain ⟨i, hi⟩ := x
  have hlt : ltB (i : Int) (a.list.length : Int) = true → i < a.list.length := ltN
  have hge : ltB (i : Int) (a.list.length : Int) = false → i = a.list.length := geN hi
  refine ⟨fun h1 => ⟨?_, ?_⟩, fun h1 => Bears.int ?_⟩
  · have := hlt h1; show 0 ≤ (i : Int) ∧ (i : Int) < (a.list.length : Int); omega
  · have := hlt h1
    exact ⟨⟨i + 1, by omega⟩, ⟨[], rfl, ⟨slot (i64_1 (n := i) (by omega)), rfl, rfl, rfl, trivial⟩, trivial⟩, by show _ - (i + 1) < _ - i; omega⟩
  · have e := hge h1
    show sumU (.L [a]) i = sumU (.L [a]) a.list.length
    rw [e]
def totN (c r : D) : Int := if qk c r ≠ 0 then 0 else sumU r (nU r)
def sTot : Sum := ⟨[configS, ratesS], fun _ => none, fun
  | [c, r] => .tup [.dat i64 (.I (totN c r)), .dat i64 (.I (qk c r))]
  | _ => .und⟩
def cQ6 : Ctx := ⟨tab, refs, [(34, sQk), (35, sQk), (77, sSum)], [], keep, mps⟩
theorem sumU_nth (r : D) : ∀ n, sumU (.L [r.nth 0]) n = sumU r n
  | 0 => rfl
  | n + 1 => by rw [sumU, sumU, sumU_nth r n]; rfl
theorem tot_fun : FunOK cQ6 60 Try.f41 sTot := fun c hc r hr _ => by
  refine ⟨fun h1 => ⟨Bears.int ?_, Bears.int rfl, trivial⟩, fun h1 => ⟨Bears.int ?_, Bears.int ?_, trivial⟩⟩
  all_goals replace h1 : (qk c r != 0) = _ := h1
  all_goals simp only [bne_iff_ne, ne_eq, bne_eq_false_iff_eq] at h1
  · show 0 = totN c r
    rw [totN, if_pos h1]
  · show sumU (.L [r.nth 0]) (nU r) = totN c r
    rw [totN, if_neg (by simp [h1]), sumU_nth]
  · exact h1.symm
theorem totR_fun : FunOK cQ6 60 Try.f42 sTot := fun c hc r hr _ => by
  simp only [InR, InRs] at hr
  have hu : nU r ≤ 9223372036854775807 := hr.1.1
  clear hr
  refine ⟨fun h1 => ⟨Bears.int ?_, Bears.int rfl, trivial⟩, fun h1 => ?_⟩
  all_goals replace h1 : (qk c r != 0) = _ := h1
  all_goals simp only [bne_iff_ne, ne_eq, bne_eq_false_iff_eq] at h1
  · show 0 = totN c r
    rw [totN, if_pos h1]
  refine ⟨{ i : Nat // i ≤ nU r }, 2, fun i => ([(8, .dat i64 (.I i.1)), (7, .dat i64 (.I (sumU r i.1))), (3, .ptr 1 ratesS [] ratesS)], [(1, .box ratesS (.dat ratesS r))]), fun i => nU r - i.1,
    ⟨0, by omega⟩, ⟨[], rfl, ⟨rfl, rfl, rfl, trivial⟩, ⟨rfl, trivial⟩⟩, ?_⟩
  intro x
  obtain ⟨i, hi⟩ := x
  have hlt : ltB (i : Int) (nU r : Int) = true → i < nU r := ltN
  have hge : ltB (i : Int) (nU r : Int) = false → i = nU r := geN hi
  refine ⟨fun h2 => ⟨?_, ?_⟩, fun h2 => ⟨Bears.int ?_, Bears.int ?_, trivial⟩⟩
  · have := hlt h2; show 0 ≤ (i : Int) ∧ (i : Int) < (nU r : Int); omega
  · have := hlt h2
    exact ⟨⟨i + 1, by omega⟩, ⟨[], rfl, ⟨slot (i64_1 (n := i) (by omega)), rfl, rfl, trivial⟩, ⟨rfl, trivial⟩⟩, by show _ - (i + 1) < _ - i; omega⟩
  · have e := hge h2
    show sumU r i = totN c r
    rw [totN, if_neg (by simp [h1]), e]
  · exact h1.symm
/-- What the classes that can be seen have used. -/
def seenU (c r : D) (L : Int) : Nat → List D
  | 0 => []
  | n + 1 => seenU c r L n ++ if seeB c L n = true then [.I (usedAt r n)] else []
theorem seenU_len (c r : D) (L : Int) : ∀ n, (seenU c r L n).length ≤ n
  | 0 => Nat.le_refl 0
  | n + 1 => by
    have := seenU_len c r L n
    rw [seenU]
    split <;> simp <;> omega
def sSeen : Sum := ⟨[configS, ratesS, u64], fun _ => none, fun
  | [c, r, l] => .tup [.dat (.slice i64) (.L (if qk c r ≠ 0 then [] else seenU c r l.int (nU r))), .dat i64 (.I (qk c r))]
  | _ => .und⟩
def cQ7 : Ctx := ⟨tab, refs, [(34, sQk), (35, sQk), (78, sBelow)], [], keep, mps⟩
theorem seen_fun : FunOK cQ7 60 Try.f43 sSeen := fun c hc r hr l hl _ => by
  simp only [InR, InRs] at hr
  have hu : nU r ≤ 9223372036854775807 := hr.1.1
  clear hr
  refine ⟨fun h1 => ⟨Bears.same (eqSame ?_), Bears.int rfl, trivial⟩, fun h1 => ?_⟩
  all_goals replace h1 : (qk c r != 0) = _ := h1
  all_goals simp only [bne_iff_ne, ne_eq, bne_eq_false_iff_eq] at h1
  · show D.L [] = D.L (if qk c r ≠ 0 then [] else seenU c r l.int (nU r))
    rw [if_pos h1]
  have h8 : nU r ≤ 8 := by have := (qk_ok h1).1; have := nC_le (qk_0 h1); omega
  have hU := (qk_ok h1).1
  refine ⟨{ i : Nat // i ≤ nU r }, 5, fun i => ([(21, .dat i64 (.I i.1)), (20, .dat i64 (.I (nU r))), (19, .dat (.slice i64) (r.nth 0)), (9, .own 4 i64), (3, .ptr 0 configS [] configS), (2, .dat u64 (.I l.int))], [(4, .grow i64 (seenU c r l.int i.1)), (0, .box configS (.dat configS c))]), fun i => nU r - i.1,
    ⟨0, by omega⟩, ⟨[(4, 3)], rfl, ⟨rfl, rfl, rfl, rfl, rfl, rfl, trivial⟩, ⟨rfl, rfl, trivial⟩⟩, ?_⟩
  intro x
  obtain ⟨i, hi⟩ := x
  have hlt : ltB (i : Int) (nU r : Int) = true → i < nU r := ltN
  have hge : ltB (i : Int) (nU r : Int) = false → i = nU r := geN hi
  refine ⟨fun h2 => ⟨?_, ?_, fun h3 => ⟨?_, ?_⟩, fun h3 => ?_⟩, fun h2 => ⟨Bears.same (eqSame ?_), Bears.int ?_, trivial⟩⟩
  · have := hlt h2; show 0 ≤ (i : Int) ∧ (i : Int) < (nU r : Int); omega
  · have := hlt h2; show 0 ≤ (i : Int) ∧ (i : Int) < (nC c : Int); omega
  · have := hlt h2; have := seenU_len c r l.int i; show (seenU c r l.int i).length + 1 ≤ 1073741824; omega
  · replace h3 : seeB c l.int i = true := h3
    have := hlt h2
    refine ⟨⟨i + 1, by omega⟩, ⟨[(4, 6)], rfl, ⟨slot (i64_1 (n := i) (by omega)), rfl, rfl, rfl, rfl, rfl, trivial⟩, ⟨gro ?_, rfl, trivial⟩⟩, by show _ - (i + 1) < _ - i; omega⟩
    show seenU c r l.int i ++ [D.I (usedAt r i)] = seenU c r l.int (i + 1)
    rw [seenU, if_pos h3]
  · replace h3 : seeB c l.int i = false := h3
    have := hlt h2
    refine ⟨⟨i + 1, by omega⟩, ⟨[], rfl, ⟨slot (i64_1 (n := i) (by omega)), rfl, rfl, rfl, rfl, rfl, trivial⟩, ⟨gro ?_, rfl, trivial⟩⟩, by show _ - (i + 1) < _ - i; omega⟩
    show seenU c r l.int i = seenU c r l.int (i + 1)
    rw [seenU, if_neg (by simp [h3]), List.append_nil]
  · have e := hge h2
    show D.L (seenU c r l.int i) = D.L (if qk c r ≠ 0 then [] else seenU c r l.int (nU r))
    rw [if_neg (by simp [h1]), e]
  · exact h1.symm
theorem seenR_fun : FunOK cQ7 60 Try.f44 sSeen := fun c hc r hr l hl _ => by
  simp only [InR, InRs] at hr
  have hu : nU r ≤ 9223372036854775807 := hr.1.1
  clear hr
  refine ⟨fun h1 => ⟨Bears.same (eqSame ?_), Bears.int rfl, trivial⟩, fun h1 => ?_⟩
  all_goals replace h1 : (qk c r != 0) = _ := h1
  all_goals simp only [bne_iff_ne, ne_eq, bne_eq_false_iff_eq] at h1
  · show D.L [] = D.L (if qk c r ≠ 0 then [] else seenU c r l.int (nU r))
    rw [if_pos h1]
  have h8 : nU r ≤ 8 := by have := (qk_ok h1).1; have := nC_le (qk_0 h1); omega
  have hU := (qk_ok h1).1
  refine ⟨{ i : Nat // i ≤ nU r }, 5, fun i => ([(10, .dat i64 (.I i.1)), (9, .own 4 i64), (4, .ptr 1 ratesS [] ratesS), (3, .ptr 0 configS [] configS), (2, .dat u64 (.I l.int))], [(4, .grow i64 (seenU c r l.int i.1)), (1, .box ratesS (.dat ratesS r)), (0, .box configS (.dat configS c))]), fun i => nU r - i.1,
    ⟨0, by omega⟩, ⟨[(4, 3)], rfl, ⟨rfl, rfl, rfl, rfl, rfl, trivial⟩, ⟨rfl, rfl, rfl, trivial⟩⟩, ?_⟩
  intro x
  obtain ⟨i, hi⟩ := x
  have hlt : ltB (i : Int) (nU r : Int) = true → i < nU r := ltN
  have hge : ltB (i : Int) (nU r : Int) = false → i = nU r := geN hi
  refine ⟨fun h2 => ⟨?_, fun h3 => ⟨?_, ?_, ?_⟩, fun h3 => ?_⟩, fun h2 => ⟨Bears.same (eqSame ?_), Bears.int ?_, trivial⟩⟩
  · have := hlt h2; show 0 ≤ (i : Int) ∧ (i : Int) < (nC c : Int); omega
  · have := hlt h2; show 0 ≤ (i : Int) ∧ (i : Int) < (nU r : Int); omega
  · have := hlt h2; have := seenU_len c r l.int i; show (seenU c r l.int i).length + 1 ≤ 1073741824; omega
  · replace h3 : seeB c l.int i = true := h3
    have := hlt h2
    refine ⟨⟨i + 1, by omega⟩, ⟨[(4, 6)], rfl, ⟨slot (i64_1 (n := i) (by omega)), rfl, rfl, rfl, rfl, trivial⟩, ⟨gro ?_, rfl, rfl, trivial⟩⟩, by show _ - (i + 1) < _ - i; omega⟩
    show seenU c r l.int i ++ [D.I (usedAt r i)] = seenU c r l.int (i + 1)
    rw [seenU, if_pos h3]
  · replace h3 : seeB c l.int i = false := h3
    have := hlt h2
    refine ⟨⟨i + 1, by omega⟩, ⟨[], rfl, ⟨slot (i64_1 (n := i) (by omega)), rfl, rfl, rfl, rfl, trivial⟩, ⟨gro ?_, rfl, rfl, trivial⟩⟩, by show _ - (i + 1) < _ - i; omega⟩
    show seenU c r l.int i = seenU c r l.int (i + 1)
    rw [seenU, if_neg (by simp [h3]), List.append_nil]
  · have e := hge h2
    show D.L (seenU c r l.int i) = D.L (if qk c r ≠ 0 then [] else seenU c r l.int (nU r))
    rw [if_neg (by simp [h1]), e]
  · exact h1.symm
def bitB (a i : Int) : Bool := bitsOp .and .u64 (shr .u64 a (IntKind.wrap .u64 i)) 1 == 1
def sIn : Sum := ⟨[u64, i64], fun
  | [_, i] => some (0 ≤ i.int ∧ i.int < 64)
  | _ => none, fun
  | [a, i] => .dat .bool (.B (bitB a.int i.int))
  | _ => .und⟩
def tab2 : List (Nat × Sh) := (114, u64) :: tab
def cU : Ctx := ⟨tab2, refs, [], [], keep, mps⟩
theorem in_fun : FunOK cU 60 Try.f88 sIn := fun a ha i hi h => by
  simp only [InR] at hi
  replace h : 0 ≤ i.int ∧ i.int < 64 := h
  refine ⟨?_, Bears.bool rfl⟩
  show 0 ≤ IntKind.wrap .u64 i.int
  rw [wrap_u64 (by omega) (by omega)]; omega
theorem bv_nat {a : Int} (h0 : 0 ≤ a) : BitVec.ofInt 64 a = BitVec.ofNat 64 a.toNat := by
  conv => lhs; rw [← Int.toNat_of_nonneg h0]
  exact BitVec.ofInt_natCast _ _
theorem bitB_test {a : Int} {i : Nat} (h0 : 0 ≤ a) (h1 : a ≤ 18446744073709551615) (hi : i < 64) : bitB a i = a.toNat.testBit i := by
  obtain ⟨n, rfl⟩ := Int.eq_ofNat_of_zero_le h0
  have e1 : IntKind.wrap .u64 (i : Int) = i := wrap_u64 (by omega) (by omega)
  have e2 : shr .u64 (n : Int) (i : Int) = ((n / 2 ^ i : Nat) : Int) := by
    rw [shr, Int.toNat_natCast, show min i IntKind.u64.bits = i from Nat.min_eq_left (by show i ≤ 64; omega), Int.fdiv_eq_ediv_of_nonneg _ (Int.le_of_lt (Int.pow_pos (by omega)))]
    norm_cast
  have hlt : n / 2 ^ i < 2 ^ 64 := Nat.lt_of_le_of_lt (Nat.div_le_self _ _) (by omega)
  have e3 : (BitVec.ofInt 64 ((n / 2 ^ i : Nat) : Int) &&& BitVec.ofInt 64 1).toNat = n / 2 ^ i % 2 := by
    rw [bv_nat (Int.natCast_nonneg _), bv_nat (by omega), BitVec.toNat_and, BitVec.toNat_ofNat, BitVec.toNat_ofNat, Int.toNat_natCast, Nat.mod_eq_of_lt hlt]
    exact Nat.and_one_is_mod _
  show (bitsOp .and .u64 (shr .u64 (n : Int) (IntKind.wrap .u64 (i : Int))) 1 == 1) = _
  rw [e1, e2]
  show (IntKind.wrap .u64 ((BitVec.ofInt 64 ((n / 2 ^ i : Nat) : Int) &&& BitVec.ofInt 64 1).toNat : Int) == 1) = _
  rw [e3, wrap_u64 (by omega) (by omega), Int.toNat_natCast, Nat.testBit_eq_decide_div_mod_eq]
  by_cases h : n / 2 ^ i % 2 = 1
  · simp [h]
  · have : n / 2 ^ i % 2 = 0 := by omega
    simp [this]
theorem belowB_all {a b : Int} (ha : IntKind.u64.min ≤ a ∧ a ≤ IntKind.u64.max) (hb : IntKind.u64.min ≤ b ∧ b ≤ IntKind.u64.max) : belowB a b = (List.range 64).all fun (i : Nat) => !(bitB a i && !bitB b i) := by
  have a0 : 0 ≤ a := ha.1
  have a1 : a ≤ 18446744073709551615 := ha.2
  have b0 : 0 ≤ b := hb.1
  have b1 : b ≤ 18446744073709551615 := hb.2
  have e : belowB a b = decide (BitVec.ofNat 64 a.toNat &&& ~~~BitVec.ofNat 64 b.toNat = 0#64) := by
    show (IntKind.wrap .u64 ((BitVec.ofInt 64 a &&& ~~~BitVec.ofInt 64 b).toNat : Int) == 0) = _
    rw [bv_nat a0, bv_nat b0]
    generalize hv : (BitVec.ofNat 64 a.toNat &&& ~~~BitVec.ofNat 64 b.toNat) = v
    have := v.isLt
    rw [wrap_u64 (by omega) (by omega)]
    rw [Bool.eq_iff_iff]
    simp only [beq_iff_eq, decide_eq_true_eq, ← BitVec.toNat_inj]
    simp
  rw [e, Bool.eq_iff_iff, decide_eq_true_eq, List.all_eq_true]
  have hbit : ∀ i, i < 64 → ((BitVec.ofNat 64 a.toNat &&& ~~~BitVec.ofNat 64 b.toNat).getLsbD i = (bitB a i && !bitB b i)) := by
    intro i hi
    rw [bitB_test a0 a1 hi, bitB_test b0 b1 hi, BitVec.getLsbD_and, BitVec.getLsbD_not, BitVec.getLsbD_ofNat, BitVec.getLsbD_ofNat]
    simp [hi]
  constructor
  · intro h i hi
    have hi : i < 64 := by simpa using hi
    rw [← hbit i hi, h]; simp
  · intro h
    apply BitVec.eq_of_getLsbD_eq
    intro i hi
    rw [hbit i hi]
    have := h i (by simpa using hi)
    simp only [Bool.not_eq_true'] at this
    rw [this]; simp
def cQ8 : Ctx := ⟨tab, refs, [(88, sIn)], [], keep, mps⟩
theorem below01_fun : FunOK cQ8 60 Try.f78 sBelow := fun a ha b hb h => by
  simp only [InR] at ha hb
  refine ⟨{ i : Nat // i ≤ 64 ∧ ∀ k, k < i → (bitB a.int k && !bitB b.int k) = false }, 0, fun i => ([(5, .dat i64 (.I i.1)), (0, .dat u64 (.I a.int)), (1, .dat u64 (.I b.int))], []), fun i => 64 - i.1,
    ⟨0, by omega, fun k h => by omega⟩, ⟨[], rfl, ⟨rfl, rfl, rfl, trivial⟩, trivial⟩, ?_⟩
  intro x
  obtain ⟨i, hi, h0⟩ := x
  have hlt : ltB (i : Int) 64 = true → i < 64 := fun h => by simp only [ltB_true] at h; omega
  have hge : ltB (i : Int) 64 = false → i = 64 := fun h => by simp only [ltB_false] at h; omega
  refine ⟨fun h1 => ⟨?_, fun _ => ⟨?_, ?_⟩, fun h2 => Bears.bool ?_, fun h2 => ?_⟩, fun h1 => Bears.bool ?_⟩
  · have := hlt h1; show 0 ≤ (i : Int) ∧ (i : Int) < 64; omega
  · show 0 ≤ (i : Int); omega
  · have := hlt h1; show (i : Int) < 64; omega
  · replace h2 : (bitB a.int i && !bitB b.int i) = true := h2
    have hk := hlt h1
    show false = belowB a.int b.int
    rw [belowB_all ha hb]
    symm
    exact List.all_eq_false.2 ⟨i, by simpa using hk, by simp [h2]⟩
  · replace h2 : (bitB a.int i && !bitB b.int i) = false := h2
    have := hlt h1
    exact ⟨⟨i + 1, by omega, upto h0 h2⟩, ⟨[], rfl, ⟨slot (i64_1 (n := i) (by omega)), rfl, rfl, trivial⟩, trivial⟩, by show _ - (i + 1) < _ - i; omega⟩
  · have e := hge h1
    show true = belowB a.int b.int
    rw [belowB_all ha hb]
    symm
    rw [List.all_eq_true]
    intro k hk
    rw [h0 k (by simp only [List.mem_range] at hk; omega)]; rfl
def cloneS : Sum := ⟨[.slice i64], fun
  | [a] => some (a.list.length ≤ 1073741824)
  | _ => none, fun | [a] => .dat (.slice i64) a | _ => .und⟩
theorem ownInts_fun : FunOK c0 60 Try.f73 cloneS := fun a ha h => by
  refine ⟨?_, Bears.same ?_⟩
  · show 0 + a.list.length ≤ 1073741824
    replace h : a.list.length ≤ 1073741824 := h
    omega
  · simp [Same]
def useX (c r : D) (L : Int) : Int := if bothX c r L ≠ 0 then bothX c r L else if leftN c r L = 0 then 15 else 0
def useU (c r : D) (L : Int) : D := if useX c r L ≠ 0 then D0 ratesS else .L [.L ((rl r).set (fl c L) (.I (usedAt r (fl c L) + 1)))]
def sUse : Sum := ⟨[configS, ratesS, u64], fun _ => none, fun
  | [c, r, l] => .tup [.dat ratesS (useU c r l.int), .dat i64 (.I (useX c r l.int))]
  | _ => .und⟩
noncomputable def cQ9 : Ctx := ⟨tab, refs, [(74, sBoth), (40, sLeft), (76, sClI)], [(75, Try.f75)], keep, mps⟩
theorem use_fun : FunOK cQ9 60 Try.f29 sUse := fun c hc r hr l hl _ => by
  refine ⟨fun h1 => ⟨Bears.same (eqSame ?_), Bears.int ?_, trivial⟩, fun h1 => ⟨?_, ?_, by kernel_rfl, fun h2 => ⟨Bears.same (eqSame ?_), Bears.int ?_, trivial⟩, fun h2 b h3 => ⟨fun h4 => ?_, fun h4 => ⟨?_, ?_, ?_, Bears.same (eqSame ?_), Bears.int ?_, trivial⟩⟩⟩⟩
  all_goals replace h1 : (bothX c r l.int != 0) = _ := h1
  all_goals simp only [bne_iff_ne, ne_eq, bne_eq_false_iff_eq] at h1
  · show D.L [D.L []] = useU c r l.int
    rw [useU, if_pos (by rw [useX, if_pos h1]; exact h1)]; rfl
  · show bothX c r l.int = useX c r l.int
    rw [useX, if_pos h1]
  all_goals obtain ⟨hq, hf, hU, hw⟩ := bothX_0 h1
  all_goals have hN : bothN c r l.int = (fl c l.int : Nat) := by rw [bothN, if_neg (by simp [hq]), clN, if_neg (by simp [qk_0 hq]), if_pos hf]
  · show 0 ≤ bothN c r l.int ∧ bothN c r l.int < (nU r : Int)
    rw [hN]; omega
  · show 0 ≤ bothN c r l.int ∧ bothN c r l.int < (nC c : Int)
    rw [hN]; omega
  all_goals replace h2 : (usedAt r (bothN c r l.int).toNat == rateAt c (bothN c r l.int).toNat) = _ := h2
  all_goals rw [hN, Int.toNat_natCast] at h2
  all_goals simp only [beq_iff_eq, beq_eq_false_iff_ne] at h2
  all_goals have hL : leftN c r l.int = rateAt c (fl c l.int) - usedAt r (fl c l.int) := by rw [leftN, if_neg (by simp [h1])]
  · show D.L [D.L []] = useU c r l.int
    rw [useU, if_pos (by rw [useX, if_neg (by simp [h1]), if_pos (by omega)]; decide)]; rfl
  · show 15 = useX c r l.int
    rw [useX, if_neg (by simp [h1]), if_pos (by omega)]
  · have e : rl r = [] := h3 h4
    simp only [nU, e, List.length_nil] at hU
    omega
  · have := nC_le (qk_0 hq); have := (qk_ok hq).1
    show 0 + nU r ≤ 1073741824
    omega
  · show 0 ≤ bothN c r l.int ∧ bothN c r l.int < (nU r : Int)
    rw [hN]; omega
  · show 0 ≤ bothN c r l.int ∧ bothN c r l.int < (nU r : Int)
    rw [hN]; omega
  · show D.L [D.L ((rl r).set (bothN c r l.int).toNat (D.I (IntKind.wrap .i64 (usedAt r (bothN c r l.int).toNat + 1))))] = useU c r l.int
    rw [useU, if_neg (by rw [useX, if_neg (by simp [h1]), if_neg (by omega)]; simp), hN, Int.toNat_natCast, wrap_i64 (by omega) (by omega)]
  · show 0 = useX c r l.int
    rw [useX, if_neg (by simp [h1]), if_neg (by omega)]
theorem useR_fun : FunOK cQ9 60 Try.f30 sUse := fun c hc r hr l hl _ => by
  refine ⟨fun h1 => ⟨fun h2 => ⟨Bears.same (eqSame ?_), Bears.int ?_, trivial⟩, fun h2 => tf h2⟩, fun h1 => ⟨fun h2 => ⟨Bears.same (eqSame ?_), Bears.int ?_, trivial⟩, fun h2 => ⟨?_, ?_, ?_, Bears.same (eqSame ?_), Bears.int ?_, trivial⟩⟩⟩
  all_goals replace h1 : (bothX c r l.int == 0 && leftN c r l.int == 0) = _ := h1
  all_goals try replace h2 : (bothX c r l.int != 0) = _ := h2
  all_goals try simp only [bne_iff_ne, ne_eq, bne_eq_false_iff_eq] at h2
  · simp only [Bool.and_eq_true, beq_iff_eq] at h1
    show D.L [D.L []] = useU c r l.int
    rw [useU, if_pos (by rw [useX, if_neg (by simp [h1.1]), if_pos h1.2]; decide)]; rfl
  · simp only [Bool.and_eq_true, beq_iff_eq] at h1
    show 15 = useX c r l.int
    rw [useX, if_neg (by simp [h1.1]), if_pos h1.2]
  · show D.L [D.L []] = useU c r l.int
    rw [useU, if_pos (by rw [useX, if_pos h2]; exact h2)]; rfl
  · show bothX c r l.int = useX c r l.int
    rw [useX, if_pos h2]
  all_goals obtain ⟨hq, hf, hU, hw⟩ := bothX_0 h2
  all_goals have hN : clI c l.int = (fl c l.int : Nat) := by rw [clI, if_pos hf]
  all_goals have hL : ¬ leftN c r l.int = 0 := by simpa [h2] using h1
  all_goals have hX : useX c r l.int = 0 := by rw [useX, if_neg (by simp [h2]), if_neg hL]
  · have := nC_le (qk_0 hq); have := (qk_ok hq).1
    show 0 + nU r ≤ 1073741824
    omega
  · show 0 ≤ clI c l.int ∧ clI c l.int < (nU r : Int)
    rw [hN]; omega
  · show 0 ≤ clI c l.int ∧ clI c l.int < (nU r : Int)
    rw [hN]; omega
  · show D.L [D.L ((rl r).set (clI c l.int).toNat (D.I (IntKind.wrap .i64 (usedAt r (clI c l.int).toNat + 1))))] = useU c r l.int
    rw [useU, if_neg (by simp [hX]), hN, Int.toNat_natCast, wrap_i64 (by omega) (by omega)]
  · exact hX.symm
end Go.Proofs.Ytjcfnooplhoheaa
