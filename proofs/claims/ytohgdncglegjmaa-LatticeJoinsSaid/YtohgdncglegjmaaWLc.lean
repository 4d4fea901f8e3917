/- Accounts of families of labels: the reference's, lists of labels. -/
import Derived.Test.YtohgdncglegjmaaWLb
namespace Go.Proofs.Ytohgdncglegjmaa
open Go Go.Vm
set_option linter.unusedSimpArgs false
set_option linter.unusedVariables false
set_option maxRecDepth 10000
def okTo (bad : Int → Int → Bool) (l : List D) (i k : Nat) : Bool := (List.range k).all fun j => !bad (l.getD i .Z).int (l.getD j .Z).int
theorem okTo_succ (bad : Int → Int → Bool) (l : List D) (i k : Nat) : okTo bad l i (k + 1) = (okTo bad l i k && !bad (l.getD i .Z).int (l.getD k .Z).int) := by
  rw [okTo, List.range_succ, List.all_append]; simp [okTo]
theorem okN_B {x : Int} {l : List D} {i : Nat} (h : i < l.length) : okN (badB x) l i = belowB (l.getD i .Z).int x := by
  cases hb : belowB (l.getD i .Z).int x
  · exact okN_no h (by rw [badB, hb]; rfl)
  · exact okN_yes fun k _ => by rw [badB, hb]; rfl
theorem belowR_fun : FunOK cJo 60 Try.f27 sBelN := fun l hl x hx _ => by
  simp only [InR] at hl
  have hl := hl.1
  refine ⟨fun h1 => ⟨Bears.same (eqSame (numsN_1 (bneT h1))), Bears.int rfl, trivial⟩, fun h1 => ?_⟩
  have h0 : famE l.list.length = 0 := bneF h1
  have h64 : l.list.length ≤ 64 := fam64 h0
  refine ⟨{ i : Nat // i ≤ l.list.length }, 3, fun i => ([(8, .dat i64 (.I i.1)), (7, .own 2 i64), (0, .dat (.slice u64) l), (1, .dat u64 (.I x.int))], [(2, .grow i64 (pick (okN (badB x.int) l.list) i.1))]), fun i => l.list.length - i.1,
    ⟨0, by omega⟩, ⟨[(2, 1)], rfl, ⟨rfl, rfl, rfl, rfl, trivial⟩, ⟨rfl, trivial⟩⟩, ?_⟩
  intro z
  obtain ⟨i, hi⟩ := z
  refine ⟨fun h2 => ⟨ix (ltN h2), fun h3 => ⟨?_, ?_⟩, fun h3 => ?_⟩, fun h2 => ?_⟩
  · have := pick_len (okN (badB x.int) l.list) i
    show (pick (okN (badB x.int) l.list) i).length + 1 ≤ 1073741824
    omega
  · have hlt : i < l.list.length := ltN h2
    have e : okN (badB x.int) l.list i = true := (okN_B hlt).trans h3
    exact ⟨⟨i + 1, hlt⟩, ⟨[(2, 4)], rfl, ⟨slot (i64_1 (n := i) (by omega)), rfl, rfl, rfl, trivial⟩, ⟨gro (pick_yes e), trivial⟩⟩, stepLt hlt⟩
  · have hlt : i < l.list.length := ltN h2
    have e : okN (badB x.int) l.list i = false := (okN_B hlt).trans h3
    exact ⟨⟨i + 1, hlt⟩, ⟨[], rfl, ⟨slot (i64_1 (n := i) (by omega)), rfl, rfl, rfl, trivial⟩, ⟨gro (pick_no e), trivial⟩⟩, stepLt hlt⟩
  · have e := geN hi h2
    subst e
    exact ⟨Bears.same (eqSame (numsN_0 h0)), Bears.int h0.symm, trivial⟩
theorem maxR_fun : FunOK cJo 60 Try.f29 (sNum lessI) := fun l hl _ => by
  simp only [InR] at hl
  have hl := hl.1
  refine ⟨fun h1 => ⟨Bears.same (eqSame (numsN_1 (bneT h1))), Bears.int rfl, trivial⟩, fun h1 => ?_⟩
  have h0 : famE l.list.length = 0 := bneF h1
  have h64 : l.list.length ≤ 64 := fam64 h0
  refine ⟨{ i : Nat // i ≤ l.list.length }, 3, fun i => ([(6, .dat i64 (.I i.1)), (5, .own 2 i64), (0, .dat (.slice u64) l)], [(2, .grow i64 (pick (okN lessI l.list) i.1))]), fun i => l.list.length - i.1,
    ⟨0, by omega⟩, ⟨[(2, 1)], rfl, ⟨rfl, rfl, rfl, trivial⟩, ⟨rfl, trivial⟩⟩, ?_⟩
  intro z
  obtain ⟨i, hi⟩ := z
  refine ⟨fun h2 => ?_, fun h2 => ?_⟩
  · have hlt : i < l.list.length := ltN h2
    refine ⟨{ k : Nat // k ≤ l.list.length }, 3, fun k => ([(8, .dat i64 (.I k.1)), (7, .dat .bool (.B (okTo lessI l.list i k.1))), (6, .dat i64 (.I i)), (5, .own 2 i64), (0, .dat (.slice u64) l)], [(2, .grow i64 (pick (okN lessI l.list) i))]), fun k => l.list.length - k.1,
      ⟨0, by omega⟩, ⟨[], rfl, ⟨rfl, rfl, rfl, rfl, rfl, trivial⟩, ⟨rfl, trivial⟩⟩, ?_⟩
    intro y
    obtain ⟨k, hk⟩ := y
    refine ⟨fun h3 => ?_, fun h3 => ?_⟩
    · have hkl : k < l.list.length := ltN h3
      replace hkl : k < l.list.length := hkl
      have hgi : (0 : Int) ≤ (i : Int) := Int.natCast_nonneg i
      have hgk : (0 : Int) ≤ (k : Int) := Int.natCast_nonneg k
      have hli : (i : Int) < (l.list.length : Int) := Int.ofNat_lt.2 hlt
      have hlk : (k : Int) < (l.list.length : Int) := Int.ofNat_lt.2 hkl
      refine ⟨fun _ => ⟨hgi, hli⟩, fun _ => ⟨hgk, hlk⟩, fun _ => ⟨hgi, hli⟩, fun _ => ⟨hgk, hlk⟩, by kernel_rfl, ⟨k + 1, hkl⟩, ⟨[], rfl, ⟨slot (i64_1 (n := k) (by omega)), slotB ?_, rfl, rfl, rfl, trivial⟩, ⟨rfl, trivial⟩⟩, stepLt hkl⟩
      exact (okTo_succ lessI l.list i k).symm
    · have e := geN hk h3
      subst e
      refine ⟨fun h4 => ⟨?_, ⟨⟨i + 1, hlt⟩, ⟨[(2, 4)], rfl, ⟨slot (i64_1 (n := i) (by omega)), rfl, rfl, trivial⟩, ⟨gro (pick_yes h4), trivial⟩⟩, stepLt hlt⟩⟩, fun h4 => ⟨⟨i + 1, hlt⟩, ⟨[], rfl, ⟨slot (i64_1 (n := i) (by omega)), rfl, rfl, trivial⟩, ⟨gro (pick_no h4), trivial⟩⟩, stepLt hlt⟩⟩
      have := pick_len (okN lessI l.list) i
      show (pick (okN lessI l.list) i).length + 1 ≤ 1073741824
      omega
  · have e := geN hi h2
    subst e
    exact ⟨Bears.same (eqSame (numsN_0 h0)), Bears.int h0.symm, trivial⟩
theorem minR_fun : FunOK cJo 60 Try.f30 (sNum lessR) := fun l hl _ => by
  simp only [InR] at hl
  have hl := hl.1
  refine ⟨fun h1 => ⟨Bears.same (eqSame (numsN_1 (bneT h1))), Bears.int rfl, trivial⟩, fun h1 => ?_⟩
  have h0 : famE l.list.length = 0 := bneF h1
  have h64 : l.list.length ≤ 64 := fam64 h0
  refine ⟨{ i : Nat // i ≤ l.list.length }, 3, fun i => ([(6, .dat i64 (.I i.1)), (5, .own 2 i64), (0, .dat (.slice u64) l)], [(2, .grow i64 (pick (okN lessR l.list) i.1))]), fun i => l.list.length - i.1,
    ⟨0, by omega⟩, ⟨[(2, 1)], rfl, ⟨rfl, rfl, rfl, trivial⟩, ⟨rfl, trivial⟩⟩, ?_⟩
  intro z
  obtain ⟨i, hi⟩ := z
  refine ⟨fun h2 => ?_, fun h2 => ?_⟩
  · have hlt : i < l.list.length := ltN h2
    refine ⟨{ k : Nat // k ≤ l.list.length }, 3, fun k => ([(8, .dat i64 (.I k.1)), (7, .dat .bool (.B (okTo lessR l.list i k.1))), (6, .dat i64 (.I i)), (5, .own 2 i64), (0, .dat (.slice u64) l)], [(2, .grow i64 (pick (okN lessR l.list) i))]), fun k => l.list.length - k.1,
      ⟨0, by omega⟩, ⟨[], rfl, ⟨rfl, rfl, rfl, rfl, rfl, trivial⟩, ⟨rfl, trivial⟩⟩, ?_⟩
    intro y
    obtain ⟨k, hk⟩ := y
    refine ⟨fun h3 => ?_, fun h3 => ?_⟩
    · have hkl : k < l.list.length := ltN h3
      replace hkl : k < l.list.length := hkl
      have hgi : (0 : Int) ≤ (i : Int) := Int.natCast_nonneg i
      have hgk : (0 : Int) ≤ (k : Int) := Int.natCast_nonneg k
      have hli : (i : Int) < (l.list.length : Int) := Int.ofNat_lt.2 hlt
      have hlk : (k : Int) < (l.list.length : Int) := Int.ofNat_lt.2 hkl
      refine ⟨fun _ => ⟨hgi, hli⟩, fun _ => ⟨hgk, hlk⟩, fun _ => ⟨hgk, hlk⟩, fun _ => ⟨hgi, hli⟩, by kernel_rfl, ⟨k + 1, hkl⟩, ⟨[], rfl, ⟨slot (i64_1 (n := k) (by omega)), slotB ?_, rfl, rfl, rfl, trivial⟩, ⟨rfl, trivial⟩⟩, stepLt hkl⟩
      show (okTo lessR l.list i k && !((l.list.getD i .Z).int != (l.list.getD k .Z).int && belowB (l.list.getD k .Z).int (l.list.getD i .Z).int)) = _
      rw [okTo_succ, lessR, lessI, bne_comm (a := (l.list.getD k .Z).int)]
    · have e := geN hk h3
      subst e
      refine ⟨fun h4 => ⟨?_, ⟨⟨i + 1, hlt⟩, ⟨[(2, 4)], rfl, ⟨slot (i64_1 (n := i) (by omega)), rfl, rfl, trivial⟩, ⟨gro (pick_yes h4), trivial⟩⟩, stepLt hlt⟩⟩, fun h4 => ⟨⟨i + 1, hlt⟩, ⟨[], rfl, ⟨slot (i64_1 (n := i) (by omega)), rfl, rfl, trivial⟩, ⟨gro (pick_no h4), trivial⟩⟩, stepLt hlt⟩⟩
      have := pick_len (okN lessR l.list) i
      show (pick (okN lessR l.list) i).length + 1 ≤ 1073741824
      omega
  · have e := geN hi h2
    subst e
    exact ⟨Bears.same (eqSame (numsN_0 h0)), Bears.int h0.symm, trivial⟩
theorem chain_e {l : List D} (h : famE l.length ≠ 0) (h2 : (famE l.length == 0 && true) = chainB l) : false = chainB l := by
  have e : (famE l.length == 0) = false := by simpa using h
  rw [← h2, e]; rfl
theorem pick_full {p : Nat → Bool} : ∀ {n : Nat}, (∀ i, i < n → p i = true) → (pick p n).length = n
  | 0, _ => rfl
  | n + 1, h => by
    rw [pick_succ, List.length_append, pick_full (fun i hi => h i (by omega)), if_pos (h n (by omega))]; rfl
theorem pick_lack {p : Nat → Bool} : ∀ {n i : Nat}, i < n → p i = false → (pick p n).length < n
  | n + 1, i, hi, h => by
    rw [pick_succ, List.length_append]
    by_cases e : i = n
    · subst e
      have := pick_len p i
      rw [if_neg (by simp [h])]; simp only [List.length_nil]; omega
    · have := pick_lack (n := n) (by omega) h
      have h1 : (if p n = true then [D.I (n : Int)] else []).length ≤ 1 := by split <;> simp
      omega
theorem badC_comm (a b : Int) : badC a b = badC b a := by rw [badC, badC, Bool.and_comm]
theorem badC_self (a : Int) : badC a a = false := by rw [badC, belowB_self]; rfl
theorem chain_no {l : List D} (h0 : famE l.length = 0) {i k : Nat} (hi : i < l.length) (hk : k < l.length) (h : badC (l.getD i .Z).int (l.getD k .Z).int = true) : chainB l = false := by
  have := pick_lack (p := okN badC l) hi (okN_no hk h)
  rw [chainB, numsN, if_pos h0, Bool.and_eq_false_iff]
  right
  rw [beq_eq_false_iff_ne]; omega
theorem chain_yes {l : List D} (h0 : famE l.length = 0) (h : ∀ a b, b < a → a < l.length → badC (l.getD a .Z).int (l.getD b .Z).int = false) : chainB l = true := by
  have := pick_full (p := okN badC l) (n := l.length) fun i hi => okN_yes fun k hk => by
    rcases Nat.lt_trichotomy i k with e | e | e
    · rw [badC_comm]; exact h k i e hk
    · subst e; exact badC_self _
    · exact h i k e hi
  rw [chainB, numsN, if_pos h0, h0, this]; simp
theorem chainR_fun : FunOK cJo 60 Try.f31 sChain := fun l hl _ => by
  simp only [InR] at hl
  have hl := hl.1
  refine ⟨fun h1 => ⟨Bears.bool (chain_1 (b := true) (bneT h1) |> chain_e (bneT h1)), Bears.int rfl, trivial⟩, fun h1 => ?_⟩
  have h0 : famE l.list.length = 0 := bneF h1
  have h64 : l.list.length ≤ 64 := fam64 h0
  refine ⟨{ i : Nat // i ≤ l.list.length ∧ ∀ a b, b < a → a < i → badC (l.list.getD a .Z).int (l.list.getD b .Z).int = false }, 0, fun i => ([(5, .dat i64 (.I i.1)), (0, .dat (.slice u64) l)], []), fun i => l.list.length - i.1,
    ⟨0, by omega, fun a b h h' => by omega⟩, ⟨[], rfl, ⟨rfl, rfl, trivial⟩, trivial⟩, ?_⟩
  intro z
  obtain ⟨i, hi, hc⟩ := z
  refine ⟨fun h2 => ?_, fun h2 => ?_⟩
  · have hlt : i < l.list.length := ltN h2
    refine ⟨{ k : Nat // k ≤ i ∧ ∀ b, b < k → badC (l.list.getD i .Z).int (l.list.getD b .Z).int = false }, 0, fun k => ([(6, .dat i64 (.I k.1)), (5, .dat i64 (.I i)), (0, .dat (.slice u64) l)], []), fun k => i - k.1,
      ⟨0, by omega, fun j h => by omega⟩, ⟨[], rfl, ⟨rfl, rfl, rfl, trivial⟩, trivial⟩, ?_⟩
    intro y
    obtain ⟨k, hk, h0k⟩ := y
    refine ⟨fun h3 => ?_, fun h3 => ?_⟩
    · have hkl : k < i := ltN h3
      have hgi : (0 : Int) ≤ (i : Int) := Int.natCast_nonneg i
      have hgk : (0 : Int) ≤ (k : Int) := Int.natCast_nonneg k
      have hli : (i : Int) < (l.list.length : Int) := Int.ofNat_lt.2 hlt
      have hlk : (k : Int) < (l.list.length : Int) := Int.ofNat_lt.2 (Nat.lt_trans hkl hlt)
      refine ⟨⟨hgi, hli⟩, ⟨hgk, hlk⟩, fun _ => ⟨hgk, hlk⟩, fun _ => ⟨hgi, hli⟩, by kernel_rfl, fun h4 => ⟨Bears.bool ?_, Bears.int h0.symm, trivial⟩, fun h4 => ?_⟩
      · exact (chain_no h0 hlt (Nat.lt_trans hkl hlt) h4).symm
      · exact ⟨⟨k + 1, hkl, upto h0k h4⟩, ⟨[], rfl, ⟨slot (i64_1 (n := k) (by omega)), rfl, rfl, trivial⟩, trivial⟩, stepLt hkl⟩
    · have e := geN hk h3
      subst e
      refine ⟨⟨k + 1, hlt, fun a b h5 h6 => ?_⟩, ⟨[], rfl, ⟨slot (i64_1 (n := k) (by omega)), rfl, trivial⟩, trivial⟩, stepLt hlt⟩
      by_cases e : a = k
      · subst e; exact h0k b h5
      · exact hc a b h5 (by omega)
  · have e := geN hi h2
    subst e
    exact ⟨Bears.bool (chain_yes h0 hc).symm, Bears.int h0.symm, trivial⟩
end Go.Proofs.Ytohgdncglegjmaa
