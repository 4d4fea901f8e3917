/- Cursors: what the laws lean on; CursorTells, CursorMoves. -/
import Derived.Test.YtmdhmjidmiemmaaWQh
namespace Go.Proofs.Ytmdhmjidmiemmaa
open Go Go.Vm Rg
set_option linter.unusedSimpArgs false
set_option linter.unusedVariables false
set_option maxRecDepth 10000
def sameL (s : Sh) (a b : List D) : Bool := a.length == b.length && (List.range a.length).all fun i => eqD s (a.getD i .Z) (b.getD i .Z)
theorem sameL_len {s : Sh} {a b : List D} (h : ((a.length : Int) != (b.length : Int)) = true) : false = sameL s a b := by
  have : a.length ≠ b.length := fun e => by rw [e] at h; simp at h
  rw [sameL, beq_eq_false_iff_ne.2 this, Bool.false_and]
theorem sameL_no {s : Sh} {a b : List D} {i : Nat} (hi : i < a.length) (h : (!eqD s (a.getD i .Z) (b.getD i .Z)) = true) : false = sameL s a b := by
  rw [sameL, not_all_range hi (by simpa using h), Bool.and_false]
theorem sameL_yes {s : Sh} {a b : List D} (hl : ((a.length : Int) != (b.length : Int)) = false) (h : ∀ k, k < a.length → eqD s (a.getD k .Z) (b.getD k .Z) = true) : true = sameL s a b := by
  have : a.length = b.length := by have := bneF hl; omega
  rw [sameL, this, all_range (by rw [← this]; exact h), beq_self_eq_true]; rfl
def sSameN : Sum := ⟨[.slice u64, .slice u64], fun _ => none, fun
  | [a, b] => .dat .bool (.B (sameL u64 a.list b.list))
  | _ => .und⟩
theorem sameN_fun : FunOK c0Q 60 Try.f33 sSameN := fun a ha b hb h => by
  have hla : a.list.length ≤ 9223372036854775807 := by simp only [InR] at ha; exact ha.1
  refine ⟨fun h1 => Bears.bool (sameL_len h1), fun h1 => ?_⟩
  replace h1 : ((a.list.length : Int) != (b.list.length : Int)) = false := h1
  have hl : a.list.length = b.list.length := by have := bneF h1; omega
  refine ⟨{ i : Nat // i ≤ a.list.length ∧ ∀ k, k < i → eqD u64 (a.list.getD k .Z) (b.list.getD k .Z) = true }, 0, fun i => ([(5, .dat i64 (.I i.1)), (0, .dat (.slice u64) a), (1, .dat (.slice u64) b)], []), fun i => a.list.length - i.1,
    ⟨0, Nat.zero_le _, fun k h => absurd h (Nat.not_lt_zero _)⟩, ⟨[], rfl, ⟨rfl, rfl, rfl, trivial⟩, trivial⟩, ?_⟩
  intro z
  obtain ⟨i, hi, hb⟩ := z
  refine ⟨fun h2 => ?_, fun h2 => ?_⟩
  · have hlt : i < a.list.length := ltN h2
    clear h2
    have g1 : 0 ≤ (i : Int) ∧ (i : Int) < (a.list.length : Int) := by omega
    have g2 : 0 ≤ (i : Int) ∧ (i : Int) < (b.list.length : Int) := by omega
    refine ⟨g1, g2, by kernel_rfl, fun h3 => Bears.bool ?_, fun h3 => ?_⟩
    all_goals replace h3 : (!eqD u64 (a.list.getD i .Z) (b.list.getD i .Z)) = _ := h3
    · exact sameL_no hlt h3
    · exact ⟨⟨i + 1, hlt, upto hb (by simpa using h3)⟩, ⟨[], rfl, ⟨slot (i64_1 (n := i) (by omega)), rfl, rfl, trivial⟩, trivial⟩, stepLt hlt⟩
  · have e : i = a.list.length := geN hi h2
    subst e
    exact Bears.bool (sameL_yes h1 hb)
def sSameI2 : Sum := ⟨[.slice i64, .slice i64], fun _ => none, fun
  | [a, b] => .dat .bool (.B (sameL i64 a.list b.list))
  | _ => .und⟩
theorem sameI2_fun : FunOK c0Q 60 Try.f30 sSameI2 := fun a ha b hb h => by
  have hla : a.list.length ≤ 9223372036854775807 := by simp only [InR] at ha; exact ha.1
  refine ⟨fun h1 => Bears.bool (sameL_len h1), fun h1 => ?_⟩
  replace h1 : ((a.list.length : Int) != (b.list.length : Int)) = false := h1
  have hl : a.list.length = b.list.length := by have := bneF h1; omega
  refine ⟨{ i : Nat // i ≤ a.list.length ∧ ∀ k, k < i → eqD i64 (a.list.getD k .Z) (b.list.getD k .Z) = true }, 0, fun i => ([(5, .dat i64 (.I i.1)), (0, .dat (.slice i64) a), (1, .dat (.slice i64) b)], []), fun i => a.list.length - i.1,
    ⟨0, Nat.zero_le _, fun k h => absurd h (Nat.not_lt_zero _)⟩, ⟨[], rfl, ⟨rfl, rfl, rfl, trivial⟩, trivial⟩, ?_⟩
  intro z
  obtain ⟨i, hi, hb⟩ := z
  refine ⟨fun h2 => ?_, fun h2 => ?_⟩
  · have hlt : i < a.list.length := ltN h2
    clear h2
    have g1 : 0 ≤ (i : Int) ∧ (i : Int) < (a.list.length : Int) := by omega
    have g2 : 0 ≤ (i : Int) ∧ (i : Int) < (b.list.length : Int) := by omega
    refine ⟨g1, g2, by kernel_rfl, fun h3 => Bears.bool ?_, fun h3 => ?_⟩
    all_goals replace h3 : (!eqD i64 (a.list.getD i .Z) (b.list.getD i .Z)) = _ := h3
    · exact sameL_no hlt h3
    · exact ⟨⟨i + 1, hlt, upto hb (by simpa using h3)⟩, ⟨[], rfl, ⟨slot (i64_1 (n := i) (by omega)), rfl, rfl, trivial⟩, trivial⟩, stepLt hlt⟩
  · have e : i = a.list.length := geN hi h2
    subst e
    exact Bears.bool (sameL_yes h1 hb)
def sSameE : Sum := ⟨[.slice storedS, .slice storedS], fun _ => none, fun
  | [a, b] => .dat .bool (.B (sameL storedS a.list b.list))
  | _ => .und⟩
theorem sameE_fun : FunOK c0Q 60 Try.f15 sSameE := fun a ha b hb h => by
  have hla : a.list.length ≤ 9223372036854775807 := by simp only [InR] at ha; exact ha.1
  refine ⟨fun h1 => Bears.bool (sameL_len h1), fun h1 => ?_⟩
  replace h1 : ((a.list.length : Int) != (b.list.length : Int)) = false := h1
  have hl : a.list.length = b.list.length := by have := bneF h1; omega
  refine ⟨{ i : Nat // i ≤ a.list.length ∧ ∀ k, k < i → eqD storedS (a.list.getD k .Z) (b.list.getD k .Z) = true }, 0, fun i => ([(5, .dat i64 (.I i.1)), (0, .dat (.slice storedS) a), (1, .dat (.slice storedS) b)], []), fun i => a.list.length - i.1,
    ⟨0, Nat.zero_le _, fun k h => absurd h (Nat.not_lt_zero _)⟩, ⟨[], rfl, ⟨rfl, rfl, rfl, trivial⟩, trivial⟩, ?_⟩
  intro z
  obtain ⟨i, hi, hb⟩ := z
  refine ⟨fun h2 => ?_, fun h2 => ?_⟩
  · have hlt : i < a.list.length := ltN h2
    clear h2
    have g1 : 0 ≤ (i : Int) ∧ (i : Int) < (a.list.length : Int) := by omega
    have g2 : 0 ≤ (i : Int) ∧ (i : Int) < (b.list.length : Int) := by omega
    refine ⟨g1, g2, by kernel_rfl, fun h3 => Bears.bool ?_, fun h3 => ?_⟩
    all_goals replace h3 : (!eqD storedS (a.list.getD i .Z) (b.list.getD i .Z)) = _ := h3
    · exact sameL_no hlt h3
    · exact ⟨⟨i + 1, hlt, upto hb (by simpa using h3)⟩, ⟨[], rfl, ⟨slot (i64_1 (n := i) (by omega)), rfl, rfl, trivial⟩, trivial⟩, stepLt hlt⟩
  · have e : i = a.list.length := geN hi h2
    subst e
    exact Bears.bool (sameL_yes h1 hb)
def sameC (a b : D) : Bool := cl a == cl b && sameL u64 (nx a) (nx b)
def sSameC : Sum := ⟨[cursorS, cursorS], fun _ => none, fun
  | [a, b] => .dat .bool (.B (sameC a b))
  | _ => .und⟩
def cSaC : Ctx := ⟨tabQ, refsQ, [(33, sSameN)], [], keep, mpsT⟩
theorem sameC_fun : FunOK cSaC 60 Try.f21 sSameC := fun a ha b hb h => by
  exact Bears.bool rfl
def sOwnC : Sum := ⟨[cursorS], fun
  | [a] => some ((nx a).length ≤ 1000)
  | _ => none, fun
  | [a] => .dat cursorS a
  | _ => .und⟩
theorem ownC_fun : FunOK c0Q 60 Try.f19 sOwnC := fun a ha h => by
  replace h : (nx a).length ≤ 1000 := h
  refine ⟨?_, by kernel_rfl, Bears.same ?_⟩
  · show 0 + (nx a).length ≤ 1073741824
    omega
  · show Same cursorS (.L [.I (cl a), .L (nx a)]) a
    simp only [Same, Sames]
    exact ⟨rfl, ⟨rfl, fun j _ => rfl⟩, trivial⟩
def sLiC : Sum := ⟨[storeS, cursorS], fun _ => none, fun
  | [s, c] => .dat .bool (.B (leB (nG s) 10 && leB ((nx c).length : Int) 20))
  | _ => .und⟩
theorem liC_fun : FunOK c0Q 60 Try.f18 sLiC := fun s hs c hc h => by
  exact Bears.bool rfl
def cfL : List D := [.L [.I 0, .I 2, .I 9], .L [.I 1, .I 2, .I 9]]
def cfA : D := .L [.L cfL, exR 6, .L [], .I 2]
def sCfQ : Sum := ⟨[], fun _ => none, fun _ => .dat Cf.configS cfA⟩
theorem cfQ_fun : FunOK c0Q 60 Try.f60 sCfQ := fun _ => by
  refine ⟨{ i : Nat // i ≤ 6 }, 3, fun i => ([(2, .dat i64 (.I i.1)), (1, .ptr 2 Cf.configS [] Cf.configS), (0, .ptr 0 Cf.configS [] Cf.configS)], [(2, .box Cf.configS (.st [.slice Cf.classS, .arr 6 Cf.tenS, .slice Cf.ruleS, u64] [.own 1 Cf.classS, .dat (.arr 6 Cf.tenS) (exR i.1), .cst (Value.slice none 0 0), .dat u64 (.I 2)])), (1, .grow Cf.classS cfL), (0, .box Cf.configS (.st [.slice Cf.classS, .arr 6 Cf.tenS, .slice Cf.ruleS, u64] [.cst (Value.slice none 0 0), .dat (.arr 6 Cf.tenS) (D0 (.arr 6 Cf.tenS)), .cst (Value.slice none 0 0), .dat u64 (D0 u64)]))]), fun i => 6 - i.1,
    ⟨0, by omega⟩, ⟨[], rfl, ⟨rfl, rfl, rfl, trivial⟩, ⟨rfl, rfl, rfl, trivial⟩⟩, ?_⟩
  intro x
  obtain ⟨i, hi⟩ := x
  refine ⟨fun h3 => ?_, fun h3 => ?_⟩
  · have hk : i < 6 := by have h3 : ltB (i : Int) 6 = true := h3; simp only [ltB_true] at h3; omega
    exact ⟨(show 0 ≤ (i : Int) ∧ (i : Int) < 6 by omega), ⟨i + 1, hk⟩, ⟨[], rfl, ⟨slot (i64_1 (n := i) (by omega)), rfl, rfl, trivial⟩, ⟨rfl, rfl, rfl, trivial⟩⟩, stepLt hk⟩
  · have he : i = 6 := by have h3 : ltB (i : Int) 6 = false := h3; simp only [ltB_false] at h3; omega
    subst he
    exact Bears.of_eq rfl
def cExQ : Ctx := ⟨tabQ, refsQ, [(60, sCfQ), (40, sNewT), (14, sPutT)], [], keep, mpsT⟩
def stQ0 : D := newT cfA
def stQ3 : D := putT (putT (putT stQ0 (evD1 0 0 0)) (evD1 1 1 0)) (evD1 0 2 0)
def sExQ : Sum := ⟨[], fun _ => none, fun _ => .tup [.dat storeS stQ0, .dat storeS stQ3]⟩
theorem exQ_fun : FunOK cExQ 60 Try.f39 sExQ := fun _ => by
  exact ⟨by kernel_rfl, Bears.of_eq rfl, Bears.of_eq rfl, trivial⟩
noncomputable def cAwQ : Ctx := ⟨tabQ, refsQ, [(39, sExQ), (10, sNewQ), (12, sWt), (21, sSameC)], [], keep, mpsT⟩
theorem leT {a b : Int} (h : leB a b = true) : a ≤ b := by simpa only [leB_true] using h
theorem awQ_fun : FunOK cAwQ 60 Try.f17 sTrueT := fun _ => by
  exact ⟨fun _ => ⟨Int.le_refl _, ltT (by kernel_rfl)⟩, fun _ => ⟨leT (by kernel_rfl), ltT (by kernel_rfl)⟩, Bears.bool (by kernel_rfl)⟩
end Go.Proofs.Ytmdhmjidmiemmaa
