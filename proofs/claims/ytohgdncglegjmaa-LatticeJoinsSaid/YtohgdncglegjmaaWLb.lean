/- Accounts of families of labels: which are below one, maximal, minimal. -/
import Derived.Test.YtohgdncglegjmaaWLa
namespace Go.Proofs.Ytohgdncglegjmaa
open Go Go.Vm
set_option linter.unusedSimpArgs false
set_option linter.unusedVariables false
set_option maxRecDepth 10000
def okN (bad : Int → Int → Bool) (l : List D) (i : Nat) : Bool := (List.range l.length).all fun k => !bad (l.getD i .Z).int (l.getD k .Z).int
def numsN (bad : Int → Int → Bool) (l : List D) : List D := if famE l.length = 0 then pick (okN bad l) l.length else []
def badB (x : Int) (a _ : Int) : Bool := !belowB a x
def lessI (a b : Int) : Bool := a != b && belowB a b
def lessR (a b : Int) : Bool := lessI b a
def badC (a b : Int) : Bool := !belowB a b && !belowB b a
theorem numsN_1 {bad : Int → Int → Bool} {l : List D} (h : famE l.length ≠ 0) : D.L [] = D.L (numsN bad l) := by rw [numsN, if_neg h]
theorem numsN_0 {bad : Int → Int → Bool} {l : List D} (h : famE l.length = 0) : D.L (pick (okN bad l) l.length) = D.L (numsN bad l) := by rw [numsN, if_pos h]
theorem pick_yes {p : Nat → Bool} {n : Nat} (h : p n = true) : pick p n ++ [D.I (n : Int)] = pick p (n + 1) := by rw [pick_succ, if_pos h]
theorem pick_no {p : Nat → Bool} {n : Nat} (h : p n = false) : pick p n = pick p (n + 1) := by rw [pick_succ, if_neg (by simp [h]), List.append_nil]
theorem okN_no {bad : Int → Int → Bool} {l : List D} {i k : Nat} (hk : k < l.length) (h : bad (l.getD i .Z).int (l.getD k .Z).int = true) : okN bad l i = false := by
  rw [okN, List.all_eq_false]; exact ⟨k, by simpa using hk, by rw [h]; simp⟩
theorem okN_yes {bad : Int → Int → Bool} {l : List D} {i : Nat} (h : ∀ k, k < l.length → bad (l.getD i .Z).int (l.getD k .Z).int = false) : okN bad l i = true := by
  rw [okN, List.all_eq_true]; intro k hk; rw [h k (by simpa using hk)]; rfl
def sBelN : Sum := ⟨[.slice u64, u64], fun _ => none, fun
  | [l, x] => .tup [.dat (.slice i64) (.L (numsN (badB x.int) l.list)), .dat i64 (.I (famE l.list.length))]
  | _ => .und⟩
def sNum (bad : Int → Int → Bool) : Sum := ⟨[.slice u64], fun _ => none, fun
  | [l] => .tup [.dat (.slice i64) (.L (numsN bad l.list)), .dat i64 (.I (famE l.list.length))]
  | _ => .und⟩
noncomputable def cNu : Ctx := ⟨tabL, refsL, [(33, sFam), (41, sBelow)], [(44, Try.f44), (45, Try.f45), (47, Try.f47), (48, Try.f48), (46, Try.f46)], keep, mpsL⟩
theorem fam64 {n : Nat} (h : famE n = 0) : n ≤ 64 := by
  rw [famE] at h
  split at h
  · cases h
  · omega
def chainB (l : List D) : Bool := famE l.length == 0 && (numsN badC l).length == l.length
def sChain : Sum := ⟨[.slice u64], fun _ => none, fun
  | [l] => .tup [.dat .bool (.B (chainB l.list)), .dat i64 (.I (famE l.list.length))]
  | _ => .und⟩
theorem chain_1 {l : List D} {b : Bool} (h : famE l.length ≠ 0) : (famE l.length == 0 && b) = chainB l := by
  have e : (famE l.length == 0) = false := by simpa using h
  rw [chainB, e]; rfl
theorem chain_0 {l : List D} (h : famE l.length = 0) : ((0 : Int) == 0 && (((pick (okN badC l) l.length).length : Int) == (l.length : Int))) = chainB l := by
  rw [chainB, numsN, if_pos h, h]
  have : (((pick (okN badC l) l.length).length : Int) == (l.length : Int)) = ((pick (okN badC l) l.length).length == l.length) := by
    rw [Bool.eq_iff_iff, beq_iff_eq, beq_iff_eq]; omega
  rw [this]
theorem belowU_fun : FunOK cNu 60 Try.f21 sBelN := fun l hl x hx _ => by
  simp only [InR] at hl
  have hl := hl.1
  refine ⟨0, Empty, 0, fun z => z.elim, fun z => z.elim, ?_, fun z => z.elim⟩
  refine ⟨fun h1 => ⟨Bears.same (eqSame (numsN_1 (bneT h1))), Bears.int rfl, trivial⟩, fun h1 => ?_⟩
  have h0 : famE l.list.length = 0 := bneF h1
  have h64 : l.list.length ≤ 64 := fam64 h0
  refine ⟨{ i : Nat // i ≤ l.list.length }, 5, fun i => ([(19, .dat i64 (.I i.1)), (18, .dat i64 (.I l.list.length)), (17, .dat (.slice u64) l), (7, .own 4 i64), (0, .dat (.slice u64) l), (1, .fn 45 [.ptr 0 u64 [] u64])], [(4, .grow i64 (pick (okN (badB x.int) l.list) i.1)), (0, .box u64 (.dat u64 (.I x.int)))]), fun i => l.list.length - i.1,
    ⟨0, by omega⟩, ⟨[(4, 3)], rfl, ⟨rfl, rfl, rfl, rfl, rfl, rfl, trivial⟩, ⟨rfl, rfl, trivial⟩⟩, ?_⟩
  intro z
  obtain ⟨i, hi⟩ := z
  refine ⟨fun h2 => ⟨ix (ltN h2), ?_⟩, fun h2 => ?_⟩
  · have hlt : i < l.list.length := ltN h2
    refine ⟨{ k : Nat // k ≤ l.list.length ∧ ∀ j, j < k → (badB x.int) (l.list.getD i .Z).int (l.list.getD j .Z).int = false }, 5, fun k => ([(26, .dat i64 (.I k.1)), (25, .dat i64 (.I l.list.length)), (24, .dat (.slice u64) l), (8, .dat i64 (.I i)), (9, .dat u64 (.I (l.list.getD i .Z).int)), (19, .dat i64 (.I i)), (18, .dat i64 (.I l.list.length)), (17, .dat (.slice u64) l), (7, .own 4 i64), (0, .dat (.slice u64) l), (1, .fn 45 [.ptr 0 u64 [] u64])], [(4, .grow i64 (pick (okN (badB x.int) l.list) i)), (0, .box u64 (.dat u64 (.I x.int)))]), fun k => l.list.length - k.1,
      ⟨0, by omega, fun j h => by omega⟩, ⟨[], rfl, ⟨rfl, rfl, rfl, rfl, rfl, rfl, rfl, rfl, rfl, rfl, rfl, trivial⟩, ⟨rfl, rfl, trivial⟩⟩, ?_⟩
    intro y
    obtain ⟨k, hk, h0k⟩ := y
    refine ⟨fun h3 => ⟨ix (ltN h3), fun h4 => ?_, fun h4 => ?_⟩, fun h3 => ⟨?_, ?_⟩⟩
    · have hkl : k < l.list.length := ltN h3
      replace h4 : (badB x.int) (l.list.getD i .Z).int (l.list.getD k .Z).int = true := h4
      exact ⟨⟨i + 1, hlt⟩, ⟨[], rfl, ⟨slot (i64_1 (n := i) (by omega)), rfl, rfl, rfl, rfl, rfl, trivial⟩, ⟨gro (pick_no (okN_no hkl h4)), rfl, trivial⟩⟩, stepLt hlt⟩
    · have hkl : k < l.list.length := ltN h3
      replace h4 : (badB x.int) (l.list.getD i .Z).int (l.list.getD k .Z).int = false := h4
      exact ⟨⟨k + 1, hkl, upto h0k h4⟩, ⟨[], rfl, ⟨slot (i64_1 (n := k) (by omega)), rfl, rfl, rfl, rfl, rfl, rfl, rfl, rfl, rfl, rfl, trivial⟩, ⟨rfl, rfl, trivial⟩⟩, stepLt hkl⟩
    · have := pick_len (okN (badB x.int) l.list) i
      show (pick (okN (badB x.int) l.list) i).length + 1 ≤ 1073741824
      omega
    · have e := geN hk h3
      subst e
      exact ⟨⟨i + 1, hlt⟩, ⟨[(4, 6)], rfl, ⟨slot (i64_1 (n := i) (by omega)), rfl, rfl, rfl, rfl, rfl, trivial⟩, ⟨gro (pick_yes (okN_yes h0k)), rfl, trivial⟩⟩, stepLt hlt⟩
  · have e := geN hi h2
    subst e
    exact ⟨Bears.same (eqSame (numsN_0 h0)), Bears.int h0.symm, trivial⟩

theorem maxU_fun : FunOK cNu 60 Try.f23 (sNum lessI) := fun l hl _ => by
  simp only [InR] at hl
  have hl := hl.1
  refine ⟨0, Empty, 0, fun z => z.elim, fun z => z.elim, ?_, fun z => z.elim⟩
  refine ⟨fun h1 => ⟨Bears.same (eqSame (numsN_1 (bneT h1))), Bears.int rfl, trivial⟩, fun h1 => ?_⟩
  have h0 : famE l.list.length = 0 := bneF h1
  have h64 : l.list.length ≤ 64 := fam64 h0
  refine ⟨{ i : Nat // i ≤ l.list.length }, 4, fun i => ([(19, .dat i64 (.I i.1)), (18, .dat i64 (.I l.list.length)), (17, .dat (.slice u64) l), (7, .own 3 i64), (0, .dat (.slice u64) l), (1, .fn 46 [])], [(3, .grow i64 (pick (okN lessI l.list) i.1))]), fun i => l.list.length - i.1,
    ⟨0, by omega⟩, ⟨[(3, 2)], rfl, ⟨rfl, rfl, rfl, rfl, rfl, rfl, trivial⟩, ⟨rfl, trivial⟩⟩, ?_⟩
  intro z
  obtain ⟨i, hi⟩ := z
  refine ⟨fun h2 => ⟨ix (ltN h2), ?_⟩, fun h2 => ?_⟩
  · have hlt : i < l.list.length := ltN h2
    refine ⟨{ k : Nat // k ≤ l.list.length ∧ ∀ j, j < k → lessI (l.list.getD i .Z).int (l.list.getD j .Z).int = false }, 4, fun k => ([(26, .dat i64 (.I k.1)), (25, .dat i64 (.I l.list.length)), (24, .dat (.slice u64) l), (8, .dat i64 (.I i)), (9, .dat u64 (.I (l.list.getD i .Z).int)), (19, .dat i64 (.I i)), (18, .dat i64 (.I l.list.length)), (17, .dat (.slice u64) l), (7, .own 3 i64), (0, .dat (.slice u64) l), (1, .fn 46 [])], [(3, .grow i64 (pick (okN lessI l.list) i))]), fun k => l.list.length - k.1,
      ⟨0, by omega, fun j h => by omega⟩, ⟨[], rfl, ⟨rfl, rfl, rfl, rfl, rfl, rfl, rfl, rfl, rfl, rfl, rfl, trivial⟩, ⟨rfl, trivial⟩⟩, ?_⟩
    intro y
    obtain ⟨k, hk, h0k⟩ := y
    refine ⟨fun h3 => ⟨ix (ltN h3), fun h4 => ?_, fun h4 => ?_⟩, fun h3 => ⟨?_, ?_⟩⟩
    · have hkl : k < l.list.length := ltN h3
      replace h4 : lessI (l.list.getD i .Z).int (l.list.getD k .Z).int = true := h4
      exact ⟨⟨i + 1, hlt⟩, ⟨[], rfl, ⟨slot (i64_1 (n := i) (by omega)), rfl, rfl, rfl, rfl, rfl, trivial⟩, ⟨gro (pick_no (okN_no hkl h4)), trivial⟩⟩, stepLt hlt⟩
    · have hkl : k < l.list.length := ltN h3
      replace h4 : lessI (l.list.getD i .Z).int (l.list.getD k .Z).int = false := h4
      exact ⟨⟨k + 1, hkl, upto h0k h4⟩, ⟨[], rfl, ⟨slot (i64_1 (n := k) (by omega)), rfl, rfl, rfl, rfl, rfl, rfl, rfl, rfl, rfl, rfl, trivial⟩, ⟨rfl, trivial⟩⟩, stepLt hkl⟩
    · have := pick_len (okN lessI l.list) i
      show (pick (okN lessI l.list) i).length + 1 ≤ 1073741824
      omega
    · have e := geN hk h3
      subst e
      exact ⟨⟨i + 1, hlt⟩, ⟨[(3, 5)], rfl, ⟨slot (i64_1 (n := i) (by omega)), rfl, rfl, rfl, rfl, rfl, trivial⟩, ⟨gro (pick_yes (okN_yes h0k)), trivial⟩⟩, stepLt hlt⟩
  · have e := geN hi h2
    subst e
    exact ⟨Bears.same (eqSame (numsN_0 h0)), Bears.int h0.symm, trivial⟩

theorem minU_fun : FunOK cNu 60 Try.f24 (sNum lessR) := fun l hl _ => by
  simp only [InR] at hl
  have hl := hl.1
  refine ⟨0, Empty, 0, fun z => z.elim, fun z => z.elim, ?_, fun z => z.elim⟩
  refine ⟨fun h1 => ⟨Bears.same (eqSame (numsN_1 (bneT h1))), Bears.int rfl, trivial⟩, fun h1 => ?_⟩
  have h0 : famE l.list.length = 0 := bneF h1
  have h64 : l.list.length ≤ 64 := fam64 h0
  refine ⟨{ i : Nat // i ≤ l.list.length }, 4, fun i => ([(19, .dat i64 (.I i.1)), (18, .dat i64 (.I l.list.length)), (17, .dat (.slice u64) l), (7, .own 3 i64), (0, .dat (.slice u64) l), (1, .fn 47 [])], [(3, .grow i64 (pick (okN lessR l.list) i.1))]), fun i => l.list.length - i.1,
    ⟨0, by omega⟩, ⟨[(3, 2)], rfl, ⟨rfl, rfl, rfl, rfl, rfl, rfl, trivial⟩, ⟨rfl, trivial⟩⟩, ?_⟩
  intro z
  obtain ⟨i, hi⟩ := z
  refine ⟨fun h2 => ⟨ix (ltN h2), ?_⟩, fun h2 => ?_⟩
  · have hlt : i < l.list.length := ltN h2
    refine ⟨{ k : Nat // k ≤ l.list.length ∧ ∀ j, j < k → lessR (l.list.getD i .Z).int (l.list.getD j .Z).int = false }, 4, fun k => ([(26, .dat i64 (.I k.1)), (25, .dat i64 (.I l.list.length)), (24, .dat (.slice u64) l), (8, .dat i64 (.I i)), (9, .dat u64 (.I (l.list.getD i .Z).int)), (19, .dat i64 (.I i)), (18, .dat i64 (.I l.list.length)), (17, .dat (.slice u64) l), (7, .own 3 i64), (0, .dat (.slice u64) l), (1, .fn 47 [])], [(3, .grow i64 (pick (okN lessR l.list) i))]), fun k => l.list.length - k.1,
      ⟨0, by omega, fun j h => by omega⟩, ⟨[], rfl, ⟨rfl, rfl, rfl, rfl, rfl, rfl, rfl, rfl, rfl, rfl, rfl, trivial⟩, ⟨rfl, trivial⟩⟩, ?_⟩
    intro y
    obtain ⟨k, hk, h0k⟩ := y
    refine ⟨fun h3 => ⟨ix (ltN h3), fun h4 => ?_, fun h4 => ?_⟩, fun h3 => ⟨?_, ?_⟩⟩
    · have hkl : k < l.list.length := ltN h3
      replace h4 : lessR (l.list.getD i .Z).int (l.list.getD k .Z).int = true := h4
      exact ⟨⟨i + 1, hlt⟩, ⟨[], rfl, ⟨slot (i64_1 (n := i) (by omega)), rfl, rfl, rfl, rfl, rfl, trivial⟩, ⟨gro (pick_no (okN_no hkl h4)), trivial⟩⟩, stepLt hlt⟩
    · have hkl : k < l.list.length := ltN h3
      replace h4 : lessR (l.list.getD i .Z).int (l.list.getD k .Z).int = false := h4
      exact ⟨⟨k + 1, hkl, upto h0k h4⟩, ⟨[], rfl, ⟨slot (i64_1 (n := k) (by omega)), rfl, rfl, rfl, rfl, rfl, rfl, rfl, rfl, rfl, rfl, trivial⟩, ⟨rfl, trivial⟩⟩, stepLt hkl⟩
    · have := pick_len (okN lessR l.list) i
      show (pick (okN lessR l.list) i).length + 1 ≤ 1073741824
      omega
    · have e := geN hk h3
      subst e
      exact ⟨⟨i + 1, hlt⟩, ⟨[(3, 5)], rfl, ⟨slot (i64_1 (n := i) (by omega)), rfl, rfl, rfl, rfl, rfl, trivial⟩, ⟨gro (pick_yes (okN_yes h0k)), trivial⟩⟩, stepLt hlt⟩
  · have e := geN hi h2
    subst e
    exact ⟨Bears.same (eqSame (numsN_0 h0)), Bears.int h0.symm, trivial⟩

theorem chainU_fun : FunOK cNu 60 Try.f25 sChain := fun l hl _ => by
  simp only [InR] at hl
  have hl := hl.1
  refine ⟨0, Empty, 0, fun z => z.elim, fun z => z.elim, ?_, fun z => z.elim⟩
  refine ⟨fun h1 => ⟨Bears.bool (chain_1 (bneT h1)), Bears.int rfl, trivial⟩, fun h1 => ?_⟩
  have h0 : famE l.list.length = 0 := bneF h1
  have h64 : l.list.length ≤ 64 := fam64 h0
  refine ⟨{ i : Nat // i ≤ l.list.length }, 3, fun i => ([(19, .dat i64 (.I i.1)), (18, .dat i64 (.I l.list.length)), (17, .dat (.slice u64) l), (7, .own 2 i64), (0, .dat (.slice u64) l), (1, .fn 48 [])], [(2, .grow i64 (pick (okN badC l.list) i.1))]), fun i => l.list.length - i.1,
    ⟨0, by omega⟩, ⟨[(2, 1)], rfl, ⟨rfl, rfl, rfl, rfl, rfl, rfl, trivial⟩, ⟨rfl, trivial⟩⟩, ?_⟩
  intro z
  obtain ⟨i, hi⟩ := z
  refine ⟨fun h2 => ⟨ix (ltN h2), ?_⟩, fun h2 => ?_⟩
  · have hlt : i < l.list.length := ltN h2
    refine ⟨{ k : Nat // k ≤ l.list.length ∧ ∀ j, j < k → badC (l.list.getD i .Z).int (l.list.getD j .Z).int = false }, 3, fun k => ([(26, .dat i64 (.I k.1)), (25, .dat i64 (.I l.list.length)), (24, .dat (.slice u64) l), (8, .dat i64 (.I i)), (9, .dat u64 (.I (l.list.getD i .Z).int)), (19, .dat i64 (.I i)), (18, .dat i64 (.I l.list.length)), (17, .dat (.slice u64) l), (7, .own 2 i64), (0, .dat (.slice u64) l), (1, .fn 48 [])], [(2, .grow i64 (pick (okN badC l.list) i))]), fun k => l.list.length - k.1,
      ⟨0, by omega, fun j h => by omega⟩, ⟨[], rfl, ⟨rfl, rfl, rfl, rfl, rfl, rfl, rfl, rfl, rfl, rfl, rfl, trivial⟩, ⟨rfl, trivial⟩⟩, ?_⟩
    intro y
    obtain ⟨k, hk, h0k⟩ := y
    refine ⟨fun h3 => ⟨ix (ltN h3), fun h4 => ?_, fun h4 => ?_⟩, fun h3 => ⟨?_, ?_⟩⟩
    · have hkl : k < l.list.length := ltN h3
      replace h4 : badC (l.list.getD i .Z).int (l.list.getD k .Z).int = true := h4
      exact ⟨⟨i + 1, hlt⟩, ⟨[], rfl, ⟨slot (i64_1 (n := i) (by omega)), rfl, rfl, rfl, rfl, rfl, trivial⟩, ⟨gro (pick_no (okN_no hkl h4)), trivial⟩⟩, stepLt hlt⟩
    · have hkl : k < l.list.length := ltN h3
      replace h4 : badC (l.list.getD i .Z).int (l.list.getD k .Z).int = false := h4
      exact ⟨⟨k + 1, hkl, upto h0k h4⟩, ⟨[], rfl, ⟨slot (i64_1 (n := k) (by omega)), rfl, rfl, rfl, rfl, rfl, rfl, rfl, rfl, rfl, rfl, trivial⟩, ⟨rfl, trivial⟩⟩, stepLt hkl⟩
    · have := pick_len (okN badC l.list) i
      show (pick (okN badC l.list) i).length + 1 ≤ 1073741824
      omega
    · have e := geN hk h3
      subst e
      exact ⟨⟨i + 1, hlt⟩, ⟨[(2, 4)], rfl, ⟨slot (i64_1 (n := i) (by omega)), rfl, rfl, rfl, rfl, rfl, trivial⟩, ⟨gro (pick_yes (okN_yes h0k)), trivial⟩⟩, stepLt hlt⟩
  · have e := geN hi h2
    subst e
    exact ⟨Bears.bool (chain_0 h0), Bears.int h0.symm, trivial⟩

end Go.Proofs.Ytohgdncglegjmaa
