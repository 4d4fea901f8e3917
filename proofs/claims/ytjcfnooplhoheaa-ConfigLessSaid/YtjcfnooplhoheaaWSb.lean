/- Accounts of the library's sort of labels: few elements. -/
import Derived.Test.YtjcfnooplhoheaaWSa
import Derived.Test.YtjcfnooplhoheaaWCa
namespace Go.Proofs.Ytjcfnooplhoheaa
open Go Go.Vm
set_option linter.unusedSimpArgs false
set_option linter.unusedVariables false
set_option maxRecDepth 10000
def tabS : List (Nat × Sh) := [(27, u64), (3, i64), (4, .bool), (69, .slice u64), (114, u64), (5, .int .u8), (9, .str)]
def cS0 : Ctx := ⟨tabS, [], [], [], keep, []⟩
def sNaN : Sum := ⟨[u64], fun _ => none, fun
  | [_] => .dat .bool (.B false)
  | _ => .und⟩
theorem nan_fun : FunOK cS0 20 Try.f111 sNaN := fun a _ _ => by
  refine Bears.bool ?_
  show (a.int != a.int) = false
  simp
def sLess : Sum := ⟨[u64, u64], fun _ => none, fun
  | [a, b] => .dat .bool (.B (ltB a.int b.int))
  | _ => .und⟩
def cS1 : Ctx := ⟨tabS, [], [(111, sNaN), (101, sLess)], [], keep, []⟩
theorem less_fun : FunOK ⟨tabS, [], [(111, sNaN)], [], keep, []⟩ 20 Try.f101 sLess := fun a _ b _ _ => by
  refine Bears.bool ?_
  show (false && !false || ltB a.int b.int) = ltB a.int b.int
  simp
def mIns : MSum := ⟨u64, [.dat i64, .dat i64], fun xs ds => match ds with
  | [a, b] => some (0 ≤ a.int ∧ a.int ≤ b.int ∧ b.int ≤ xs.length ∧ xs.length ≤ 1000000)
  | _ => some False, fun _ _ => .tup [], fun xs ds => match ds with
  | [a, b] => segS a.int.toNat b.int.toNat xs
  | _ => xs⟩
theorem keyOne {s : Nat} {b : Bool} (h : KeyCond [(s, true, b)]) : b = true := h
/-- How far insertion sort has come. -/
structure InsI (xs : List D) (A B i : Nat) (l : List D) : Prop where
  len : l.length = xs.length
  perm : (ints l).Perm (ints xs)
  out : ∀ k, k < A ∨ B ≤ k → (l.getD k .Z).int = (xs.getD k .Z).int
  sorted : ∀ a b, A ≤ a → a < b → b < i → (l.getD a .Z).int ≤ (l.getD b .Z).int
structure InsJ (xs : List D) (A B i j : Nat) (l : List D) : Prop where
  len : l.length = xs.length
  perm : (ints l).Perm (ints xs)
  out : ∀ k, k < A ∨ B ≤ k → (l.getD k .Z).int = (xs.getD k .Z).int
  sorted : ∀ a b, A ≤ a → a < b → b ≤ i → b ≠ j → (l.getD a .Z).int ≤ (l.getD b .Z).int
theorem ins_fun : FunMOK cS1 100 Try.f95 mIns := fun xs hx a ha b hb h => by
  replace h : 0 ≤ a.int ∧ a.int ≤ b.int ∧ b.int ≤ xs.length ∧ xs.length ≤ 1000000 := h
  obtain ⟨A, hA⟩ : ∃ A : Nat, a.int = A := ⟨a.int.toNat, by omega⟩
  obtain ⟨B, hB⟩ : ∃ B : Nat, b.int = B := ⟨b.int.toNat, by omega⟩
  have hAB : A ≤ B ∧ B ≤ xs.length ∧ xs.length ≤ 1000000 := by omega
  refine ⟨{ x : Nat × List D // A < x.1 ∧ (x.1 ≤ B ∨ x.1 = A + 1) ∧ InsI xs A B x.1 x.2 }, 1, fun x => ([(6, .dat i64 (.I x.1.1)), (0, .own 0 u64), (1, .dat i64 (.I A)), (2, .dat i64 (.I B))], [(0, .grow u64 x.1.2)]), fun x => B - x.1.1,
    ⟨(A + 1, xs), by omega, .inr rfl, rfl, List.Perm.refl _, fun _ _ => rfl, fun a b h1 h2 h3 => by omega⟩, ⟨[], rfl, ⟨slot ?_, rfl, slot hA, slot hB, trivial⟩, ⟨rfl, trivial⟩⟩, ?_⟩
  · show IntKind.i64.wrap (a.int + 1) = ((A + 1 : Nat) : Int)
    rw [wrap_i64 (by omega) (by omega)]; omega
  intro x
  obtain ⟨⟨i, l⟩, h1, h2, hI⟩ := x
  simp only at h1 h2 hI
  refine ⟨fun h3 => ?_, fun h3 => ?_⟩
  · have hi : i < B := by have h3 : ltB (i : Int) (B : Int) = true := h3; simp only [ltB_true] at h3; omega
    clear h3
    refine ⟨{ x : Nat × List D // A ≤ x.1 ∧ x.1 ≤ i ∧ InsJ xs A B i x.1 x.2 }, 1, fun x => ([(7, .dat i64 (.I x.1.1)), (6, .dat i64 (.I i)), (0, .own 0 u64), (1, .dat i64 (.I A)), (2, .dat i64 (.I B))], [(0, .grow u64 x.1.2)]), fun x => x.1.1,
      ⟨(i, l), by omega, by omega, hI.len, hI.perm, hI.out, fun a b k1 k2 k3 k4 => hI.sorted a b k1 k2 (by omega)⟩, ⟨[], rfl, ⟨rfl, rfl, rfl, rfl, rfl, trivial⟩, ⟨rfl, trivial⟩⟩, ?_⟩
    intro x
    obtain ⟨⟨j, m⟩, j1, j2, hJ⟩ := x
    simp only at j1 j2 hJ
    have hj1 : A < j → IntKind.i64.wrap ((j : Int) - 1) = ((j - 1 : Nat) : Int) := fun h => by
      rw [wrap_i64 (by omega) (by omega)]; omega
    refine ⟨fun hk => ⟨?_, ?_⟩, fun hk => ⟨?_, ?_⟩, by kernel_rfl, fun h1 => ?_, fun h1 => ?_⟩
    · show 0 ≤ (j : Int)
      omega
    · have hl := hJ.len
      show (j : Int) < m.length
      omega
    · have hA : A < j := by have h : ltB (A : Int) (j : Int) = true := keyOne hk; simp only [ltB_true] at h; omega
      show 0 ≤ IntKind.i64.wrap ((j : Int) - 1)
      rw [hj1 hA]; omega
    · have hA : A < j := by have h : ltB (A : Int) (j : Int) = true := keyOne hk; simp only [ltB_true] at h; omega
      have hl := hJ.len
      show IntKind.i64.wrap ((j : Int) - 1) < m.length
      rw [hj1 hA]; omega
    · replace h1 : (ltB (A : Int) (j : Int) && ltB (m.getD j .Z).int (m.getD (IntKind.i64.wrap ((j : Int) - 1)).toNat .Z).int) = true := h1
      simp only [Bool.and_eq_true, ltB_true] at h1
      have hA : A < j := by omega
      have hl := hJ.len
      have hw := hj1 hA
      have h1 := h1.2
      rw [hw, Int.toNat_natCast] at h1
      have b1 : 0 ≤ IntKind.i64.wrap ((j : Int) - 1) ∧ IntKind.i64.wrap ((j : Int) - 1) < (m.length : Int) := by rw [hw]; omega
      have b2 : 0 ≤ (j : Int) ∧ (j : Int) < (m.length : Int) := by omega
      refine ⟨b1, b2, b2, ?_, by kernel_rfl, ⟨(j - 1, (m.set j (.I (m.getD (j - 1) .Z).int)).set (j - 1) (.I (m.getD j .Z).int)), by omega, by omega, ?_⟩, ⟨[], rfl, ⟨slot hw, rfl, rfl, rfl, rfl, trivial⟩, ⟨gro ?_, trivial⟩⟩, ?_⟩
      · show 0 ≤ IntKind.i64.wrap ((j : Int) - 1) ∧ IntKind.i64.wrap ((j : Int) - 1) < ((m.set j (D.puts u64 (m.getD j .Z) [] (.I (m.getD (IntKind.i64.wrap ((j : Int) - 1)).toNat .Z).int))).length : Int)
        rw [List.length_set]; exact b1
      · have g := swap_get (l := m) (i := j) (j := j - 1) (by omega) (by omega)
        refine ⟨by simp only [List.length_set]; exact hl, (swap_perm (by omega) (by omega)).trans hJ.perm, fun k hk => ?_, fun a b k1 k2 k3 k4 => ?_⟩
        · rw [g, if_neg (by omega), if_neg (by omega)]; exact hJ.out k hk
        · rw [g, g, if_neg k4]
          by_cases e1 : b = j
          · rw [if_pos e1]
            by_cases e2 : a = j - 1
            · rw [if_pos e2]; omega
            · rw [if_neg e2, if_neg (by omega)]
              exact hJ.sorted a (j - 1) k1 (by omega) (by omega) (by omega)
          · rw [if_neg e1]
            by_cases e2 : a = j - 1
            · rw [if_pos e2]
              rcases Nat.lt_or_ge b j with h | h
              · omega
              · exact hJ.sorted j b (by omega) (by omega) k3 e1
            · rw [if_neg e2]
              by_cases e3 : a = j
              · rw [if_pos e3]; exact hJ.sorted (j - 1) b (by omega) (by omega) k3 e1
              · rw [if_neg e3]; exact hJ.sorted a b k1 k2 k3 e1
      · show (m.set j (D.puts u64 (m.getD j .Z) [] (.I (m.getD (IntKind.i64.wrap ((j : Int) - 1)).toNat .Z).int))).set (IntKind.i64.wrap ((j : Int) - 1)).toNat (D.puts u64 _ [] (.I (m.getD j .Z).int)) = _
        rw [hw, Int.toNat_natCast, D.puts_nil, D.puts_nil]
      · show j - 1 < j
        omega
    · replace h1 : (ltB (A : Int) (j : Int) && ltB (m.getD j .Z).int (m.getD (IntKind.i64.wrap ((j : Int) - 1)).toNat .Z).int) = false := h1
      refine ⟨⟨(i + 1, m), by omega, by omega, hJ.len, hJ.perm, hJ.out, fun a b k1 k2 k3 => ?_⟩, ⟨[], rfl, ⟨slot (i64_1 (n := i) (by omega)), rfl, rfl, rfl, trivial⟩, ⟨rfl, trivial⟩⟩, by show B - (i + 1) < B - i; omega⟩
      have k3 : b < i + 1 := k3
      show (m.getD a .Z).int ≤ (m.getD b .Z).int
      by_cases e : b = j
      · subst e
        rw [hj1 (by omega), Int.toNat_natCast] at h1
        simp only [Bool.and_eq_false_iff, ltB_false] at h1
        have h5 : (m.getD (b - 1) .Z).int ≤ (m.getD b .Z).int := by omega
        by_cases e2 : a = b - 1
        · subst e2; exact h5
        · have := hJ.sorted a (b - 1) k1 (by omega) (by omega) (by omega)
          omega
      · exact hJ.sorted a b k1 k2 (by omega) e
  · replace h3 : ltB (i : Int) (B : Int) = false := h3
    simp only [ltB_false] at h3
    refine ⟨⟨rfl, ?_⟩, trivial⟩
    show BearsL u64 l (segS a.int.toNat b.int.toNat xs)
    refine bearsL_int (segS_of (by omega) (by omega) hI.len hI.perm (fun k hk => hI.out k (by omega)) fun p q h4 h5 h6 => hI.sorted p q (by omega) h5 (by omega))
def mPdq : MSum := ⟨u64, [.dat i64, .dat i64, .dat i64], fun xs ds => match ds with
  | [a, b, _] => some (0 ≤ a.int ∧ a.int ≤ b.int ∧ b.int ≤ xs.length ∧ b.int - a.int ≤ 12 ∧ xs.length ≤ 1000000)
  | _ => some False, fun _ _ => .tup [], fun xs ds => match ds with
  | [a, b, _] => segS a.int.toNat b.int.toNat xs
  | _ => xs⟩
def cS2 : Ctx := ⟨tabS, [], [(101, sLess)], [], keep, [(95 + 1000000, .msum mIns)]⟩
theorem pdq_fun : FunMOK cS2 100 Try.f93 mPdq := fun xs hx a ha b hb c hc h => by
  replace h : 0 ≤ a.int ∧ a.int ≤ b.int ∧ b.int ≤ xs.length ∧ b.int - a.int ≤ 12 ∧ xs.length ≤ 1000000 := h
  refine ⟨Unit, 1, fun _ => ([(0, .own 0 u64), (1, .dat i64 (.I a.int)), (2, .dat i64 (.I b.int))], [(0, .grow u64 xs)]), fun _ => 0, (), ⟨[], rfl, ⟨rfl, rfl, rfl, trivial⟩, ⟨rfl, trivial⟩⟩, ?_⟩
  intro x
  refine ⟨fun h1 => ⟨?_, ⟨rfl, rfl, fun j hj => Bears.rfl⟩, trivial⟩, fun h1 => ?_⟩
  · show 0 ≤ a.int ∧ a.int ≤ b.int ∧ b.int ≤ (xs.length : Int) ∧ xs.length ≤ 1000000
    omega
  · replace h1 : leB (IntKind.i64.wrap (b.int - a.int)) 12 = false := h1
    rw [wrap_i64 (by omega) (by omega)] at h1
    simp only [leB_false] at h1
    omega
def mSort : MSum := ⟨u64, [], fun xs _ => some (xs.length ≤ 12), fun _ _ => .tup [], fun xs _ => sortD xs⟩
noncomputable def cS3 : Ctx := ⟨tabS, [], [], [(94, Try.f94), (105, Try.f105)], keep, [(93 + 1000000, .msum mPdq)]⟩
theorem sort_fun : FunMOK cS3 100 Try.f87 mSort := fun xs hx h => by
  replace h : xs.length ≤ 12 := h
  have hw : IntKind.u64.wrap (xs.length : Int) = xs.length := wrap_u64 (by omega) (by omega)
  have no : ∀ b : Int, 13 ≤ b → leB b (IntKind.u64.wrap (xs.length : Int)) = true → False := fun b hb h => by
    rw [hw] at h; simp only [leB_true] at h; omega
  refine ⟨fun h1 => (by cases h1), fun _ => ⟨fun h2 => (no _ (by decide) h2).elim, fun _ => ⟨fun h3 => (no _ (by decide) h3).elim, fun _ => ⟨fun h4 => (no _ (by decide) h4).elim, fun _ => ⟨?_, ?_, ⟨rfl, bearsL_int ?_⟩, trivial⟩⟩⟩⟩⟩
  · show 0 ≤ IntKind.u8.wrap (IntKind.u64.wrap (xs.length : Int)) ∧ IntKind.u8.wrap (IntKind.u64.wrap (xs.length : Int)) < ((256 : Nat) : Int)
    rw [hw]
    simp only [IntKind.wrap, IntKind.signed, IntKind.bits]; simp; omega
  · show 0 ≤ (0 : Int) ∧ (0 : Int) ≤ (xs.length : Int) ∧ (xs.length : Int) ≤ (xs.length : Int) ∧ (xs.length : Int) - 0 ≤ 12 ∧ xs.length ≤ 1000000
    omega
  · show ints (segS 0 xs.length xs) = ints (sortD xs)
    simp [segS, sortD, ints_nums, ints, nums]
theorem mixedS : Try.prog.follows .mixedOrders = true := by kernel_rfl
theorem ctxS {l : List (Nat × Sum)} (h : SumsOK Try.prog l) : CtxOK Try.prog ⟨tabS, [], l, [], keep, []⟩ := CtxOK.of (by kernel_rfl) (by kernel_rfl) h FunsOK.nil
theorem nan_ok : SumOK Try.prog 111 sNaN := sumOK_of_vc (c := cS0) (ctxS .nil) mixedS Try.func111 rfl (by decide) @nan_fun
theorem less_ok : SumOK Try.prog 101 sLess := sumOK_of_vc (c := ⟨tabS, [], [(111, sNaN)], [], keep, []⟩) (ctxS (.cons nan_ok .nil)) mixedS Try.func101 rfl (by decide) @less_fun
theorem ins_ok : MutOK Try.prog 95 mIns := mutOK_of_vc (c := cS1) (ctxS (.cons nan_ok (.cons less_ok .nil))) mixedS Try.func95 rfl (by decide) ins_fun
theorem pdq_ok : MutOK Try.prog 93 mPdq := mutOK_of_vc (c := cS2) ((ctxS (.cons less_ok .nil)).withM ins_ok) mixedS Try.func93 rfl (by decide) pdq_fun
theorem sort_ok : MutOK Try.prog 87 mSort := mutOK_of_vc (c := cS3) ((CtxOK.of (c := ⟨tabS, [], [], [(94, Try.f94), (105, Try.f105)], keep, []⟩) (by kernel_rfl) (by kernel_rfl) .nil
  (.cons Try.func94 rfl (by decide) (.cons Try.func105 rfl (by decide) .nil))).withM pdq_ok) mixedS Try.func87 rfl (by decide) sort_fun
end Go.Proofs.Ytjcfnooplhoheaa
