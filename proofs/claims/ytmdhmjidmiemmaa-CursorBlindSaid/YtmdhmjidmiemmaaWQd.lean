/- Accounts of cursors: which fit a store, what is lost. Accounts of cursors: New, Sees, own, Skip. Accounts of cursors: Skip. Accounts of cursors: what waits, heads, the first. -/
import Derived.Test.YtmdhmjidmiemmaaWTi
namespace Go.Proofs.Ytmdhmjidmiemmaa
open Go Go.Vm Rg
set_option linter.unusedSimpArgs false
set_option linter.unusedVariables false
set_option maxRecDepth 10000
abbrev cursorS : Sh := .struct [u64, .slice u64]
abbrev headS : Sh := .struct [storedS, .bool]
def tabQ : List (Nat × Sh) := [(31, cursorS), (29, .slice u64), (127, headS), (128, .arr 8 headS), (131, .slice headS), (22, .slice i64)] ++ tabT
def refsQ : List (Nat × Value) := (88, .nilFunc) :: refsT
theorem tabQOK : tabB Try.prog tabQ = true := by kernel_rfl
theorem refsQOK : refsB Try.prog refsQ = true := by kernel_rfl
def c0Q : Ctx := ⟨tabQ, refsQ, [], [], keep, mpsT⟩
theorem ctxQ {l : List (Nat × Sum)} (h : SumsOK Try.prog l) : CtxOK Try.prog ⟨tabQ, refsQ, l, [], keep, mpsT⟩ := CtxOK.of tabQOK refsQOK h FunsOK.nil mpsTOK
def cl (c : D) : Int := (c.nth 0).int
def nx (c : D) : List D := (c.nth 1).list
def nxA (c : D) (i : Nat) : Int := ((nx c).getD i .Z).int
def sSees : Sum := ⟨[ringS, u64], fun _ => none, fun
  | [r, l] => .dat .bool (.B (Cf.belowB (r.nth 0).int l.int))
  | _ => .und⟩
theorem sees_fun : FunOK c0Q 40 Try.f55 sSees := fun r hr l hl _ => Bears.bool rfl
theorem seesR_fun : FunOK c0Q 40 Try.f54 sSees := fun r hr l hl _ => Bears.bool rfl
def seeB (s : D) (l : Int) (i : Nat) : Bool := Cf.belowB (labG s i) l
def bad1 (s c : D) (i : Nat) : Bool := !seeB s (cl c) i && nxA c i != 0
def bad2 (s c : D) (i : Nat) : Bool := seeB s (cl c) i && (ltB (nxA c i) 1 || ltB ((rgAt s i).nth 3).int (nxA c i))
def ckE (s c : D) : Int := if stE s ≠ 0 then stE s else if (nx c).length ≠ nG s then 2 else if (List.range (nG s)).any (bad1 s c) = true then 13 else if (List.range (nG s)).any (bad2 s c) = true then 2 else 0
def sCkQ : Sum := ⟨[storeS, cursorS], fun _ => none, fun
  | [s, c] => .dat i64 (.I (ckE s c))
  | _ => .und⟩
theorem ckE_st {s c : D} (h : stE s ≠ 0) : stE s = ckE s c := by rw [ckE, if_pos h]
theorem ckE_len {s c : D} (h0 : stE s = 0) (h : (nx c).length ≠ nG s) : 2 = ckE s c := by rw [ckE, if_neg (by simp [h0]), if_pos h]
theorem anyQ_yes {p : Nat → Bool} {n k : Nat} (hk : k < n) (h : p k = true) : (List.range n).any p = true := by
  rw [List.any_eq_true]; exact ⟨k, by simpa using hk, h⟩
theorem anyQ_no {p : Nat → Bool} {n : Nat} (h : ∀ k, k < n → p k = false) : (List.range n).any p = false := by
  rw [List.any_eq_false]; intro k hk; rw [h k (by simpa using hk)]; decide
theorem ckE_13 {s c : D} (h0 : stE s = 0) (hl : (nx c).length = nG s) {k : Nat} (hk : k < nG s) (h : bad1 s c k = true) : 13 = ckE s c := by
  rw [ckE, if_neg (by simp [h0]), if_neg (by simp [hl]), if_pos (anyQ_yes hk h)]
theorem ckE_2 {s c : D} (h0 : stE s = 0) (hl : (nx c).length = nG s) (h1 : ∀ k, k < nG s → bad1 s c k = false) {k : Nat} (hk : k < nG s) (h : bad2 s c k = true) : 2 = ckE s c := by
  rw [ckE, if_neg (by simp [h0]), if_neg (by simp [hl]), if_neg (by rw [anyQ_no h1]; decide), if_pos (anyQ_yes hk h)]
theorem ckE_0 {s c : D} (h0 : stE s = 0) (hl : (nx c).length = nG s) (h1 : ∀ k, k < nG s → bad1 s c k = false) (h2 : ∀ k, k < nG s → bad2 s c k = false) : 0 = ckE s c := by
  rw [ckE, if_neg (by simp [h0]), if_neg (by simp [hl]), if_neg (by rw [anyQ_no h1]; decide), if_neg (by rw [anyQ_no h2]; decide)]
theorem bneT {a b : Int} (h : (a != b) = true) : a ≠ b := by simpa using h
theorem bneF {a b : Int} (h : (a != b) = false) : a = b := by simpa using h
noncomputable def cCkQ : Ctx := ⟨tabQ, refsQ, [(42, sChk), (55, sSees)], [(43, Try.f43), (67, Try.f67)], keep, mpsT⟩
theorem ck_fun : FunOK cCkQ 200 Try.f22 sCkQ := fun s hs c hc _ => by
  refine ⟨fun h1 => Bears.int (ckE_st (bneT h1)), fun h1 => ?_⟩
  have h0 : stE s = 0 := bneF h1
  have h8 := (st_ok h0).1.1
  clear h1
  refine ⟨fun h2 => Bears.int (ckE_len h0 ?_), fun h2 => ?_⟩
  · replace h2 : (((nx c).length : Int) != (nG s : Int)) = true := h2
    have := bneT h2; omega
  replace h2 : (((nx c).length : Int) != (nG s : Int)) = false := h2
  have hl : (nx c).length = nG s := by have := bneF h2; omega
  clear h2
  have gN : ∀ {k : Nat}, k < nG s → 0 ≤ (k : Int) ∧ (k : Int) < ((nx c).length : Int) := fun h => by omega
  refine ⟨{ i : Nat // i ≤ nG s ∧ ∀ k, k < i → bad1 s c k = false }, 3, fun i => ([(25, .dat i64 (.I i.1)), (24, .dat i64 (.I (nG s))), (23, .dat (.slice ringS) (s.nth 0)), (4, .ptr 2 i64 [] i64), (3, .ptr 1 cursorS [] cursorS), (2, .ptr 0 storeS [] storeS)],
      [(2, .box i64 (.dat i64 (D0 i64))), (1, .box cursorS (.dat cursorS c)), (0, .box storeS (.dat storeS s))]), fun i => nG s - i.1,
    ⟨0, Nat.zero_le _, fun k h => absurd h (Nat.not_lt_zero _)⟩, ⟨[], rfl, ⟨rfl, rfl, rfl, rfl, rfl, rfl, trivial⟩, ⟨rfl, rfl, rfl, trivial⟩⟩, ?_⟩
  intro z
  obtain ⟨i, hi, hb⟩ := z
  refine ⟨fun h1 => ?_, fun h1 => ?_⟩
  · have hlt : i < nG s := ltN h1
    clear h1
    refine ⟨ix hlt, fun _ => gN hlt, fun h1 => Bears.int (ckE_13 h0 hl hlt h1), fun h1 => ?_⟩
    exact ⟨⟨i + 1, hlt, upto hb h1⟩, ⟨[], rfl, ⟨slot (i64_1 (n := i) (by omega)), rfl, rfl, rfl, rfl, rfl, trivial⟩, ⟨rfl, rfl, rfl, trivial⟩⟩, stepLt hlt⟩
  · have e := geN hi h1
    subst e
    refine ⟨0, Empty, 0, fun z => z.elim, fun z => z.elim, ?_, fun z => z.elim⟩
    refine ⟨{ i : Nat // i ≤ nG s ∧ ∀ k, k < i → bad2 s c k = false }, 6, fun i => ([(9, .dat i64 (.I i.1)), (8, .dat i64 (.I (nG s))), (7, .dat (.slice ringS) (s.nth 0)), (0, .yld 5), (1, .ptr 3 storeS [] storeS), (2, .ptr 4 u64 [] u64)],
      [(5, .loop .ready), (4, .box u64 (.dat u64 (.I (cl c)))), (3, .box storeS (.dat storeS s)), (2, .box i64 (.dat i64 (D0 i64))), (1, .box cursorS (.dat cursorS c)), (0, .box storeS (.dat storeS s))]), fun i => nG s - i.1,
      ⟨0, Nat.zero_le _, fun k h => absurd h (Nat.not_lt_zero _)⟩, ⟨[], rfl, ⟨rfl, rfl, rfl, rfl, rfl, rfl, trivial⟩, ⟨rfl, rfl, rfl, rfl, rfl, rfl, trivial⟩⟩, ?_⟩
    intro z
    obtain ⟨i, hi, hb2⟩ := z
    refine ⟨fun h1 => ?_, fun h1 => ?_⟩
    · have hlt : i < nG s := ltN h1
      clear h1
      refine ⟨ix hlt, fun h1 => ?_, fun h1 => ⟨gN hlt, fun _ => gN hlt, by kernel_rfl, fun h2 => ⟨fun _ => Bears.int (ckE_2 h0 hl hb (k := i) hlt ?_), fun h3 => (by cases h3)⟩, fun h2 => ⟨fun h3 => (by cases h3), fun _ => ?_⟩⟩⟩
      · replace h1 : (!seeB s (cl c) i) = true := h1
        refine ⟨⟨i + 1, hlt, upto hb2 ?_⟩, ⟨[], rfl, ⟨slot (i64_1 (n := i) (by omega)), rfl, rfl, rfl, rfl, rfl, trivial⟩, ⟨rfl, rfl, rfl, rfl, rfl, rfl, trivial⟩⟩, stepLt hlt⟩
        rw [Bool.not_eq_true'] at h1
        rw [bad2, h1, Bool.false_and]
      · replace h1 : (!seeB s (cl c) i) = false := h1
        replace h2 : (ltB (nxA c i) 1 || ltB ((rgAt s i).nth 3).int (nxA c i)) = true := h2
        rw [Bool.not_eq_false'] at h1
        rw [bad2, h1, h2]; rfl
      · replace h1 : (!seeB s (cl c) i) = false := h1
        replace h2 : (ltB (nxA c i) 1 || ltB ((rgAt s i).nth 3).int (nxA c i)) = false := h2
        refine ⟨⟨i + 1, hlt, upto hb2 ?_⟩, ⟨[], rfl, ⟨slot (i64_1 (n := i) (by omega)), rfl, rfl, rfl, rfl, rfl, trivial⟩, ⟨rfl, rfl, rfl, rfl, rfl, rfl, trivial⟩⟩, stepLt hlt⟩
        rw [bad2, h2, Bool.and_false]
    · have e := geN hi h1
      subst e
      exact Bears.int (ckE_0 h0 hl hb hb2)
def cCkR : Ctx := ⟨tabQ, refsQ, [(48, sChk), (54, sSees)], [], keep, mpsT⟩
theorem ckR_fun : FunOK cCkR 200 Try.f23 sCkQ := fun s hs c hc _ => by
  refine ⟨fun h1 => Bears.int (ckE_st (bneT h1)), fun h1 => ?_⟩
  have h0 : stE s = 0 := bneF h1
  have h8 := (st_ok h0).1.1
  clear h1
  refine ⟨fun h2 => Bears.int (ckE_len h0 ?_), fun h2 => ?_⟩
  · replace h2 : (((nx c).length : Int) != (nG s : Int)) = true := h2
    have := bneT h2; omega
  replace h2 : (((nx c).length : Int) != (nG s : Int)) = false := h2
  have hl : (nx c).length = nG s := by have := bneF h2; omega
  clear h2
  refine ⟨{ i : Nat // i ≤ (nx c).length ∧ ∀ k, k < i → bad1 s c k = false }, 2, fun i => ([(6, .dat i64 (.I i.1)), (3, .ptr 1 cursorS [] cursorS), (2, .ptr 0 storeS [] storeS)],
      [(1, .box cursorS (.dat cursorS c)), (0, .box storeS (.dat storeS s))]), fun i => (nx c).length - i.1,
    ⟨0, Nat.zero_le _, fun k h => absurd h (Nat.not_lt_zero _)⟩, ⟨[], rfl, ⟨rfl, rfl, rfl, trivial⟩, ⟨rfl, rfl, trivial⟩⟩, ?_⟩
  intro z
  obtain ⟨i, hi, hb⟩ := z
  refine ⟨fun h1 => ?_, fun h1 => ?_⟩
  · have hlt : i < (nx c).length := ltN h1
    clear h1
    have hin : i < nG s := by omega
    have g1 : 0 ≤ (i : Int) ∧ (i : Int) < (nG s : Int) := by omega
    have g3 : i + 1 < 2 ^ 60 := by omega
    refine ⟨g1, fun _ => ⟨Int.natCast_nonneg i, Int.ofNat_lt.2 hlt⟩, by kernel_rfl, fun h1 => Bears.int (ckE_13 h0 hl (k := i) hin h1), fun h1 => ?_⟩
    exact ⟨⟨i + 1, hlt, upto hb h1⟩, ⟨[], rfl, ⟨slot (i64_1 (n := i) (by omega)), rfl, rfl, trivial⟩, ⟨rfl, rfl, trivial⟩⟩, stepLt hlt⟩
  · have e := geN hi h1
    subst e
    refine ⟨{ i : Nat // i ≤ (nx c).length ∧ ∀ k, k < i → bad2 s c k = false }, 2, fun i => ([(7, .dat i64 (.I i.1)), (3, .ptr 1 cursorS [] cursorS), (2, .ptr 0 storeS [] storeS)],
      [(1, .box cursorS (.dat cursorS c)), (0, .box storeS (.dat storeS s))]), fun i => (nx c).length - i.1,
      ⟨0, Nat.zero_le _, fun k h => absurd h (Nat.not_lt_zero _)⟩, ⟨[], rfl, ⟨rfl, rfl, rfl, trivial⟩, ⟨rfl, rfl, trivial⟩⟩, ?_⟩
    intro z
    obtain ⟨i, hi, hb2⟩ := z
    refine ⟨fun h1 => ?_, fun h1 => ?_⟩
    · have hlt : i < (nx c).length := ltN h1
      clear h1
      have hin : i < nG s := by omega
      have g1 : 0 ≤ (i : Int) ∧ (i : Int) < (nG s : Int) := by omega
      have g2 : 0 ≤ (i : Int) ∧ (i : Int) < ((nx c).length : Int) := by omega
      refine ⟨g1, fun _ => ⟨g2.1, g2.2⟩, fun _ => ⟨g2.1, g2.2⟩, fun _ => ⟨g1.1, g1.2⟩, by kernel_rfl, fun h1 => Bears.int (ckE_2 h0 hl (fun k hk => hb k (by omega)) (k := i) hin h1), fun h1 => ?_⟩
      exact ⟨⟨i + 1, hlt, upto hb2 h1⟩, ⟨[], rfl, ⟨slot (i64_1 (n := i) (by omega)), rfl, rfl, trivial⟩, ⟨rfl, rfl, trivial⟩⟩, stepLt hlt⟩
    · have e := geN hi h1
      subst e
      exact Bears.int (ckE_0 h0 hl (fun k hk => hb k (by omega)) (fun k hk => hb2 k (by omega)))
/-- What is lost in the rings, among the first i, that are seen. -/
def lsA (s c : D) (i : Nat) : Int := IntKind.u64.wrap (((rgAt s i).nth 2).int - nxA c i)
def lsB (s c : D) (i : Nat) : Bool := seeB s (cl c) i && ltB (nxA c i) ((rgAt s i).nth 2).int
def lsT (s c : D) : Nat → Int
  | 0 => 0
  | i + 1 => if lsB s c i = true then IntKind.u64.wrap (lsT s c i + lsA s c i) else lsT s c i
def sLostQ : Sum := ⟨[storeS, cursorS], fun
  | [s, c] => some ((nx c).length = nG s ∧ nG s ≤ 8)
  | _ => none, fun
  | [s, c] => .dat u64 (.I (lsT s c (nG s)))
  | _ => .und⟩
theorem wrap_add_sub (a b c : Int) : IntKind.u64.wrap (IntKind.u64.wrap (a + b) - c) = IntKind.u64.wrap (a + IntKind.u64.wrap (b - c)) := by
  simp only [IntKind.wrap, IntKind.signed, IntKind.bits]; simp; omega
theorem lost_fun : FunOK cCkQ 200 Try.f47 sLostQ := fun s hs c hc h => by
  obtain ⟨hl, h8⟩ : (nx c).length = nG s ∧ nG s ≤ 8 := h
  have gN : ∀ {k : Nat}, k < nG s → 0 ≤ (k : Int) ∧ (k : Int) < ((nx c).length : Int) := fun h => by omega
  refine ⟨0, Empty, 0, fun z => z.elim, fun z => z.elim, ?_, fun z => z.elim⟩
  refine ⟨{ i : Nat // i ≤ nG s }, 6, fun i => ([(9, .dat i64 (.I i.1)), (8, .dat i64 (.I (nG s))), (7, .dat (.slice ringS) (s.nth 0)), (0, .yld 5), (1, .ptr 3 storeS [] storeS), (2, .ptr 4 u64 [] u64)],
    [(5, .loop .ready), (4, .box u64 (.dat u64 (.I (cl c)))), (3, .box storeS (.dat storeS s)), (2, .box u64 (.dat u64 (.I (lsT s c i.1)))), (1, .box cursorS (.dat cursorS c)), (0, .box storeS (.dat storeS s))]), fun i => nG s - i.1,
    ⟨0, Nat.zero_le _⟩, ⟨[], rfl, ⟨rfl, rfl, rfl, rfl, rfl, rfl, trivial⟩, ⟨rfl, rfl, rfl, rfl, rfl, rfl, trivial⟩⟩, ?_⟩
  intro z
  obtain ⟨i, hi⟩ := z
  refine ⟨fun h1 => ?_, fun h1 => ?_⟩
  · have hlt : i < nG s := ltN h1
    clear h1
    refine ⟨ix hlt, fun h1 => ?_, fun h1 => ⟨gN hlt, by kernel_rfl, fun h2 => ⟨gN hlt, by kernel_rfl, fun h3 => (by cases h3), fun _ => ?_⟩, fun h2 => ⟨fun h3 => (by cases h3), fun _ => ?_⟩⟩⟩
    all_goals replace h1 : (!seeB s (cl c) i) = _ := h1
    · refine ⟨⟨i + 1, hlt⟩, ⟨[], rfl, ⟨slot (i64_1 (n := i) (by omega)), rfl, rfl, rfl, rfl, rfl, trivial⟩, ⟨rfl, rfl, rfl, bx ?_, rfl, rfl, trivial⟩⟩, stepLt hlt⟩
      rw [Bool.not_eq_true'] at h1
      rw [lsT, lsB, h1, if_neg (by simp)]
    all_goals replace h2 : ltB (nxA c i) ((rgAt s i).nth 2).int = _ := h2
    all_goals rw [Bool.not_eq_false'] at h1
    · refine ⟨⟨i + 1, hlt⟩, ⟨[], rfl, ⟨slot (i64_1 (n := i) (by omega)), rfl, rfl, rfl, rfl, rfl, trivial⟩, ⟨rfl, rfl, rfl, bx ?_, rfl, rfl, trivial⟩⟩, stepLt hlt⟩
      show D.I (IntKind.u64.wrap (lsT s c i + IntKind.u64.wrap (((rgAt s i).nth 2).int - nxA c i))) = D.I (lsT s c (i + 1))
      rw [lsT, if_pos (by rw [lsB, h1, h2]; rfl), lsA]
    · refine ⟨⟨i + 1, hlt⟩, ⟨[], rfl, ⟨slot (i64_1 (n := i) (by omega)), rfl, rfl, rfl, rfl, rfl, trivial⟩, ⟨rfl, rfl, rfl, bx ?_, rfl, rfl, trivial⟩⟩, stepLt hlt⟩
      rw [lsT, lsB, h1, h2, if_neg (by simp)]
  · have e := geN hi h1
    subst e
    exact Bears.int rfl
theorem lostR_fun : FunOK cCkR 200 Try.f56 sLostQ := fun s hs c hc h => by
  obtain ⟨hl, h8⟩ : (nx c).length = nG s ∧ nG s ≤ 8 := h
  refine ⟨{ i : Nat // i ≤ (nx c).length }, 2, fun i => ([(6, .dat i64 (.I i.1)), (5, .dat u64 (.I (lsT s c i.1))), (3, .ptr 1 cursorS [] cursorS), (2, .ptr 0 storeS [] storeS)],
    [(1, .box cursorS (.dat cursorS c)), (0, .box storeS (.dat storeS s))]), fun i => (nx c).length - i.1,
    ⟨0, Nat.zero_le _⟩, ⟨[], rfl, ⟨rfl, rfl, rfl, rfl, trivial⟩, ⟨rfl, rfl, trivial⟩⟩, ?_⟩
  intro z
  obtain ⟨i, hi⟩ := z
  refine ⟨fun h1 => ?_, fun h1 => ?_⟩
  · have hlt : i < (nx c).length := ltN h1
    clear h1
    have hin : i < nG s := by omega
    have g1 : 0 ≤ (i : Int) ∧ (i : Int) < (nG s : Int) := by omega
    have g2 : 0 ≤ (i : Int) ∧ (i : Int) < ((nx c).length : Int) := by omega
    refine ⟨g1, fun _ => ⟨g2.1, g2.2⟩, fun _ => ⟨g1.1, g1.2⟩, by kernel_rfl, fun h1 => ⟨g1, g2, by kernel_rfl, ?_⟩, fun h1 => ?_⟩
    all_goals replace h1 : lsB s c i = _ := h1
    · refine ⟨⟨i + 1, hlt⟩, ⟨[], rfl, ⟨slot (i64_1 (n := i) (by omega)), slot ?_, rfl, rfl, trivial⟩, ⟨rfl, rfl, trivial⟩⟩, stepLt hlt⟩
      show IntKind.u64.wrap (IntKind.u64.wrap (lsT s c i + ((rgAt s i).nth 2).int) - nxA c i) = lsT s c (i + 1)
      rw [lsT, if_pos h1, lsA]
      exact wrap_add_sub _ _ _
    · refine ⟨⟨i + 1, hlt⟩, ⟨[], rfl, ⟨slot (i64_1 (n := i) (by omega)), slot ?_, rfl, rfl, trivial⟩, ⟨rfl, rfl, trivial⟩⟩, stepLt hlt⟩
      show lsT s c i = lsT s c (i + 1)
      rw [lsT, if_neg (by rw [h1]; decide)]
  · have e : i = (nx c).length := geN hi h1
    have e2 : i = nG s := by omega
    subst e2
    exact Bears.int rfl
end Go.Proofs.Ytmdhmjidmiemmaa

namespace Go.Proofs.Ytmdhmjidmiemmaa
open Go Go.Vm Rg
set_option linter.unusedSimpArgs false
set_option linter.unusedVariables false
set_option maxRecDepth 10000
/-- A list of n elements, of which those below i that b marks have been changed from g to f. -/
def upd (g f : Nat → D) (b : Nat → Bool) (i n : Nat) : List D := (List.range n).map fun k => if k < i ∧ b k = true then f k else g k
theorem upd_len {g f : Nat → D} {b : Nat → Bool} {i n : Nat} : (upd g f b i n).length = n := by simp [upd]
theorem upd_0 {g f : Nat → D} {b : Nat → Bool} {n : Nat} : upd g f b 0 n = (List.range n).map g := by
  rw [upd]; apply List.map_congr_left; intro k hk; rw [if_neg (by omega)]
theorem upd_get {g f : Nat → D} {b : Nat → Bool} {i n k : Nat} (hk : k < n) : (upd g f b i n).getD k .Z = if k < i ∧ b k = true then f k else g k := by
  simp [upd, List.getD_eq_getElem?_getD, hk]
theorem upd_set {g f : Nat → D} {b : Nat → Bool} {i n : Nat} (hi : i < n) (hb : b i = true) : (upd g f b i n).set i (f i) = upd g f b (i + 1) n := by
  apply List.ext_getElem
  · simp [upd]
  intro k h1 h2
  rw [List.getElem_set]
  by_cases h : i = k
  · subst h; simp [upd, hb]
  · rw [if_neg h]
    simp only [upd, List.getElem_map, List.getElem_range]
    by_cases h3 : k < i ∧ b k = true
    · rw [if_pos h3, if_pos ⟨by omega, h3.2⟩]
    · rw [if_neg h3, if_neg (by rintro ⟨h4, h5⟩; exact h3 ⟨by omega, h5⟩)]
theorem upd_skip {g f : Nat → D} {b : Nat → Bool} {i n : Nat} (hb : b i = false) : upd g f b i n = upd g f b (i + 1) n := by
  rw [upd, upd]; apply List.map_congr_left; intro k hk
  by_cases h3 : k < i ∧ b k = true
  · rw [if_pos h3, if_pos ⟨by omega, h3.2⟩]
  · rw [if_neg h3, if_neg (by
      rintro ⟨h4, h5⟩
      by_cases h6 : k = i
      · rw [h6, hb] at h5; cases h5
      · exact h3 ⟨by omega, h5⟩)]
theorem upd_app {g f : Nat → D} {b : Nat → Bool} {n : Nat} (m : Nat) (hm : n < m) : upd g f b m n ++ [if b n = true then f n else g n] = upd g f b m (n + 1) := by
  rw [upd, upd, List.range_succ, List.map_append, List.map_singleton]
  congr 1
  by_cases h : b n = true
  · rw [if_pos h, if_pos ⟨hm, h⟩]
  · rw [if_neg h, if_neg (fun h' => h h'.2)]
theorem upd_high {g f : Nat → D} {b : Nat → Bool} {n m m' : Nat} (h : n ≤ m) (h' : n ≤ m') : upd g f b m n = upd g f b m' n := by
  rw [upd, upd]; apply List.map_congr_left; intro k hk
  have : k < n := by simpa using hk
  by_cases h3 : b k = true
  · rw [if_pos ⟨by omega, h3⟩, if_pos ⟨by omega, h3⟩]
  · rw [if_neg (fun h' => h3 h'.2), if_neg (fun h' => h3 h'.2)]
theorem range_rep {n : Nat} {d : D} : (List.range n).map (fun _ => d) = List.replicate n d := by
  rw [List.map_const']; simp
def nwQ (s : D) (l : Int) (i n : Nat) : List D := upd (fun _ => .I 0) (fun k => .I ((rgAt s k).nth 3).int) (seeB s l) i n
def newQ (s : D) (l : Int) : D := if stE s ≠ 0 then D0 cursorS else .L [.I l, .L (nwQ s l (nG s) (nG s))]
theorem newQ_no {s : D} {l : Int} (h : stE s ≠ 0) : D0 cursorS = newQ s l := by rw [newQ, if_pos h]
theorem sameQ {t : Sh} {a b : D} (h : a = b) : Same t a b := h ▸ Same.rfl
theorem newQ_yes {s : D} {l : Int} (h : stE s = 0) : .L [.I l, .L (nwQ s l (nG s) (nG s))] = newQ s l := by rw [newQ, if_neg (by simp [h])]
def sNewQ : Sum := ⟨[storeS, u64], fun _ => none, fun
  | [s, l] => .tup [.dat cursorS (newQ s l.int), .dat i64 (.I (stE s))]
  | _ => .und⟩
theorem new_fun : FunOK cCkQ 200 Try.f10 sNewQ := fun s hs l hl _ => by
  refine ⟨fun h1 => ⟨Bears.same (sameQ (newQ_no (bneT h1))), Bears.int rfl, trivial⟩, fun h1 => ?_⟩
  have h0 : stE s = 0 := bneF h1
  have h8 := (st_ok h0).1.1
  clear h1
  refine ⟨⟨Int.natCast_nonneg _, Int.le_refl _, ?_⟩, ?_⟩
  · show (nG s : Int) ≤ 1073741824
    omega
  refine ⟨0, Empty, 0, fun z => z.elim, fun z => z.elim, ?_, fun z => z.elim⟩
  refine ⟨{ i : Nat // i ≤ nG s }, 7, fun i => ([(9, .dat i64 (.I i.1)), (8, .dat i64 (.I (nG s))), (7, .dat (.slice ringS) (s.nth 0)), (0, .yld 6), (1, .ptr 4 storeS [] storeS), (2, .ptr 5 u64 [] u64)],
    [(6, .loop .ready), (5, .box u64 (.dat u64 (.I l.int))), (4, .box storeS (.dat storeS s)), (2, .grow u64 (nwQ s l.int i.1 (nG s))), (3, .box cursorS (.st [u64, .slice u64] [.dat u64 (.I l.int), .own 2 u64])), (1, .box cursorS (.st [u64, .slice u64] [.dat u64 (.I 0), .cst (.slice none 0 0)])), (0, .box storeS (.dat storeS s))]), fun i => nG s - i.1,
    ⟨0, Nat.zero_le _⟩, ⟨[], rfl, ⟨rfl, rfl, rfl, rfl, rfl, rfl, trivial⟩, ⟨rfl, rfl, rfl, gro ?_, rfl, rfl, rfl, trivial⟩⟩, ?_⟩
  · exact range_rep.symm.trans upd_0.symm
  intro z
  obtain ⟨i, hi⟩ := z
  refine ⟨fun h1 => ?_, fun h1 => ?_⟩
  · have hlt : i < nG s := ltN h1
    clear h1
    refine ⟨ix hlt, fun h2 => ?_, fun h2 => ⟨?_, fun h3 => (by cases h3), fun _ => ?_⟩⟩
    all_goals replace h2 : (!seeB s l.int i) = _ := h2
    · rw [Bool.not_eq_true'] at h2
      exact ⟨⟨i + 1, hlt⟩, ⟨[], rfl, ⟨slot (i64_1 (n := i) (by omega)), rfl, rfl, rfl, rfl, rfl, trivial⟩, ⟨rfl, rfl, rfl, gro (upd_skip h2), rfl, rfl, rfl, trivial⟩⟩, stepLt hlt⟩
    · refine ⟨Int.natCast_nonneg _, ?_⟩
      have := @upd_len (fun _ => .I 0) (fun k => .I ((rgAt s k).nth 3).int) (seeB s l.int) i (nG s)
      have h3 : (i : Int) < ((upd (fun _ => .I 0) (fun k => .I ((rgAt s k).nth 3).int) (seeB s l.int) i (nG s)).length : Int) := by omega
      exact h3
    · rw [Bool.not_eq_false'] at h2
      exact ⟨⟨i + 1, hlt⟩, ⟨[], rfl, ⟨slot (i64_1 (n := i) (by omega)), rfl, rfl, rfl, rfl, rfl, trivial⟩, ⟨rfl, rfl, rfl, gro (upd_set hlt h2), rfl, rfl, rfl, trivial⟩⟩, stepLt hlt⟩
  · have e := geN hi h1
    subst e
    exact ⟨Bears.same (sameQ (newQ_yes h0)), Bears.int h0.symm, trivial⟩
def seesQ (s : D) (l : Int) (i : Nat) : List D := ((List.range i).filter (seeB s l)).map fun k : Nat => D.I (k : Int)
theorem seesQ_yes {s : D} {l : Int} {i : Nat} (h : seeB s l i = true) : seesQ s l i ++ [.I (i : Int)] = seesQ s l (i + 1) := by
  rw [seesQ, seesQ, List.range_succ, List.filter_append, List.map_append]; simp [h]
theorem seesQ_no {s : D} {l : Int} {i : Nat} (h : seeB s l i = false) : seesQ s l i = seesQ s l (i + 1) := by
  rw [seesQ, seesQ, List.range_succ, List.filter_append, List.map_append]; simp [h]
theorem seesQ_len {s : D} {l : Int} {i : Nat} : (seesQ s l i).length ≤ i := by
  rw [seesQ, List.length_map]; exact Nat.le_trans (List.length_filter_le _ _) (by simp)
def sSeesQ : Sum := ⟨[storeS, u64], fun _ => none, fun
  | [s, l] => .tup [.dat (.slice i64) (.L (if stE s ≠ 0 then [] else seesQ s l.int (nG s))), .dat i64 (.I (stE s))]
  | _ => .und⟩
theorem seesT_no {s : D} {l : Int} {n : Nat} (h : stE s ≠ 0) : Same (.slice i64) (.L []) (.L (if stE s ≠ 0 then [] else seesQ s l n)) := by
  rw [if_pos h]; exact Same.rfl
theorem seesT_yes {s : D} {l : Int} {n : Nat} (h : stE s = 0) : Same (.slice i64) (.L (seesQ s l n)) (.L (if stE s ≠ 0 then [] else seesQ s l n)) := by
  rw [if_neg (by simp [h])]; exact Same.rfl
theorem Sees_fun : FunOK cCkQ 200 Try.f28 sSeesQ := fun s hs l hl _ => by
  refine ⟨fun h1 => ⟨Bears.same (seesT_no (bneT h1)), Bears.int rfl, trivial⟩, fun h1 => ?_⟩
  have h0 : stE s = 0 := bneF h1
  have h8 := (st_ok h0).1.1
  clear h1
  refine ⟨0, Empty, 0, fun z => z.elim, fun z => z.elim, ?_, fun z => z.elim⟩
  refine ⟨{ i : Nat // i ≤ nG s }, 8, fun i => ([(9, .dat i64 (.I i.1)), (8, .dat i64 (.I (nG s))), (7, .dat (.slice ringS) (s.nth 0)), (0, .yld 6), (1, .ptr 4 storeS [] storeS), (2, .ptr 5 u64 [] u64)],
    [(6, .loop .ready), (5, .box u64 (.dat u64 (.I l.int))), (4, .box storeS (.dat storeS s)), (7, .grow i64 (seesQ s l.int i.1)), (3, .box (.slice i64) (.own 7 i64)), (0, .box storeS (.dat storeS s))]), fun i => nG s - i.1,
    ⟨0, Nat.zero_le _⟩, ⟨[(7, 2)], rfl, ⟨rfl, rfl, rfl, rfl, rfl, rfl, trivial⟩, ⟨rfl, rfl, rfl, rfl, rfl, rfl, trivial⟩⟩, ?_⟩
  intro z
  obtain ⟨i, hi⟩ := z
  refine ⟨fun h1 => ?_, fun h1 => ?_⟩
  · have hlt : i < nG s := ltN h1
    clear h1
    refine ⟨ix hlt, fun h2 => ?_, fun h2 => ⟨?_, fun h3 => (by cases h3), fun _ => ?_⟩⟩
    all_goals replace h2 : (!seeB s l.int i) = _ := h2
    · rw [Bool.not_eq_true'] at h2
      exact ⟨⟨i + 1, hlt⟩, ⟨[], rfl, ⟨slot (i64_1 (n := i) (by omega)), rfl, rfl, rfl, rfl, rfl, trivial⟩, ⟨rfl, rfl, rfl, gro (seesQ_no h2), rfl, rfl, trivial⟩⟩, stepLt hlt⟩
    · have := @seesQ_len s l.int i
      show (seesQ s l.int i).length + 1 ≤ 1073741824
      omega
    · rw [Bool.not_eq_false'] at h2
      exact ⟨⟨i + 1, hlt⟩, ⟨[(7, 10)], rfl, ⟨slot (i64_1 (n := i) (by omega)), rfl, rfl, rfl, rfl, rfl, trivial⟩, ⟨rfl, rfl, rfl, gro (seesQ_yes h2), rfl, rfl, trivial⟩⟩, stepLt hlt⟩
  · have e := geN hi h1
    subst e
    exact ⟨Bears.same (seesT_yes h0), Bears.int h0.symm, trivial⟩
theorem newR_fun : FunOK cCkR 200 Try.f20 sNewQ := fun s hs l hl _ => by
  refine ⟨fun h1 => ⟨Bears.same (sameQ (newQ_no (bneT h1))), Bears.int rfl, trivial⟩, fun h1 => ?_⟩
  have h0 : stE s = 0 := bneF h1
  have h8 := (st_ok h0).1.1
  clear h1
  refine ⟨{ i : Nat // i ≤ nG s }, 4, fun i => ([(8, .dat i64 (.I i.1)), (7, .ptr 2 cursorS [] cursorS), (4, .ptr 1 cursorS [] cursorS), (2, .ptr 0 storeS [] storeS), (1, .dat u64 (.I l.int))],
    [(3, .grow u64 (nwQ s l.int (nG s) i.1)), (2, .box cursorS (.st [u64, .slice u64] [.dat u64 (.I l.int), .own 3 u64])), (1, .box cursorS (.st [u64, .slice u64] [.dat u64 (.I 0), .cst (.slice none 0 0)])), (0, .box storeS (.dat storeS s))]), fun i => nG s - i.1,
    ⟨0, Nat.zero_le _⟩, ⟨[(3, 1000000)], rfl, ⟨rfl, rfl, rfl, rfl, rfl, trivial⟩, ⟨rfl, rfl, rfl, rfl, trivial⟩⟩, ?_⟩
  intro z
  obtain ⟨i, hi⟩ := z
  refine ⟨fun h1 => ?_, fun h1 => ?_⟩
  · have hlt : i < nG s := ltN h1
    clear h1
    have := @upd_len (fun _ => .I 0) (fun k => .I ((rgAt s k).nth 3).int) (seeB s l.int) (nG s) i
    refine ⟨ix hlt, fun h2 => ⟨ix hlt, ?_, ?_⟩, fun h2 => ⟨?_, ?_⟩⟩
    all_goals replace h2 : seeB s l.int i = _ := h2
    · show (nwQ s l.int (nG s) i).length + 1 ≤ 1073741824
      rw [nwQ]; omega
    · refine ⟨⟨i + 1, hlt⟩, ⟨[(3, 5)], rfl, ⟨slot (i64_1 (n := i) (by omega)), rfl, rfl, rfl, rfl, trivial⟩, ⟨gro ?_, rfl, rfl, rfl, trivial⟩⟩, stepLt hlt⟩
      refine Eq.trans ?_ (upd_app (nG s) hlt)
      rw [if_pos h2]; rfl
    · show (nwQ s l.int (nG s) i).length + 1 ≤ 1073741824
      rw [nwQ]; omega
    · refine ⟨⟨i + 1, hlt⟩, ⟨[(3, 5)], rfl, ⟨slot (i64_1 (n := i) (by omega)), rfl, rfl, rfl, rfl, trivial⟩, ⟨gro ?_, rfl, rfl, rfl, trivial⟩⟩, stepLt hlt⟩
      refine Eq.trans ?_ (upd_app (nG s) hlt)
      rw [if_neg (by rw [h2]; decide)]; rfl
  · have e := geN hi h1
    subst e
    exact ⟨Bears.same (sameQ (newQ_yes h0)), Bears.int h0.symm, trivial⟩
theorem SeesR_fun : FunOK cCkR 200 Try.f29 sSeesQ := fun s hs l hl _ => by
  refine ⟨fun h1 => ⟨Bears.same (seesT_no (bneT h1)), Bears.int rfl, trivial⟩, fun h1 => ?_⟩
  have h0 : stE s = 0 := bneF h1
  have h8 := (st_ok h0).1.1
  clear h1
  refine ⟨{ i : Nat // i ≤ nG s }, 4, fun i => ([(8, .dat i64 (.I i.1)), (7, .own 3 i64), (2, .ptr 0 storeS [] storeS), (1, .dat u64 (.I l.int))],
    [(3, .grow i64 (seesQ s l.int i.1)), (0, .box storeS (.dat storeS s))]), fun i => nG s - i.1,
    ⟨0, Nat.zero_le _⟩, ⟨[(3, 2)], rfl, ⟨rfl, rfl, rfl, rfl, trivial⟩, ⟨rfl, rfl, trivial⟩⟩, ?_⟩
  intro z
  obtain ⟨i, hi⟩ := z
  refine ⟨fun h1 => ?_, fun h1 => ?_⟩
  · have hlt : i < nG s := ltN h1
    clear h1
    refine ⟨ix hlt, fun h2 => ⟨?_, ?_⟩, fun h2 => ?_⟩
    all_goals replace h2 : seeB s l.int i = _ := h2
    · have := @seesQ_len s l.int i
      show (seesQ s l.int i).length + 1 ≤ 1073741824
      omega
    · exact ⟨⟨i + 1, hlt⟩, ⟨[(3, 5)], rfl, ⟨slot (i64_1 (n := i) (by omega)), rfl, rfl, rfl, trivial⟩, ⟨gro (seesQ_yes h2), rfl, trivial⟩⟩, stepLt hlt⟩
    · exact ⟨⟨i + 1, hlt⟩, ⟨[], rfl, ⟨slot (i64_1 (n := i) (by omega)), rfl, rfl, rfl, trivial⟩, ⟨gro (seesQ_no h2), rfl, trivial⟩⟩, stepLt hlt⟩
  · have e := geN hi h1
    subst e
    exact ⟨Bears.same (seesT_yes h0), Bears.int h0.symm, trivial⟩
end Go.Proofs.Ytmdhmjidmiemmaa

namespace Go.Proofs.Ytmdhmjidmiemmaa
open Go Go.Vm Rg
set_option linter.unusedSimpArgs false
set_option linter.unusedVariables false
set_option maxRecDepth 10000
structure CkOK (s c : D) : Prop where
  st : stE s = 0
  len : (nx c).length = nG s
  b1 : ∀ k, k < nG s → bad1 s c k = false
  b2 : ∀ k, k < nG s → bad2 s c k = false
theorem ck_ok {s c : D} (h : ckE s c = 0) : CkOK s c := by
  have h0 : stE s = 0 := by
    by_cases h0 : stE s = 0
    · exact h0
    · rw [ckE, if_pos h0] at h; exact h
  have h1 : (nx c).length = nG s := by
    by_cases h1 : (nx c).length = nG s
    · exact h1
    · rw [ckE, if_neg (by simp [h0]), if_pos h1] at h; cases h
  rw [ckE, if_neg (by simp [h0]), if_neg (by simp [h1])] at h
  by_cases h2 : (List.range (nG s)).any (bad1 s c) = true
  · rw [if_pos h2] at h; cases h
  rw [if_neg h2] at h
  by_cases h3 : (List.range (nG s)).any (bad2 s c) = true
  · rw [if_pos h3] at h; cases h
  refine ⟨h0, h1, fun k hk => ?_, fun k hk => ?_⟩
  · by_cases h : bad1 s c k = true
    · exact absurd (anyQ_yes hk h) h2
    · simpa using h
  · by_cases h : bad2 s c k = true
    · exact absurd (anyQ_yes hk h) h3
    · simpa using h
theorem CkOK.le8 {s c : D} (h : CkOK s c) : nG s ≤ 8 := (st_ok h.st).1.1
def fiA (s : D) (k : Nat) : Int := ((rgAt s k).nth 2).int
def skG (s c : D) (k : Nat) : D := .I (if fiA s k > nxA c k then fiA s k else nxA c k)
def skU (s c : D) (i : Nat) : List D := upd (fun k => .I (nxA c k)) (skG s c) (seeB s (cl c)) (nG s) i
def skO (s c : D) (i : Nat) : List D := upd (fun k => (nx c).getD k .Z) (skG s c) (seeB s (cl c)) i (nG s)
theorem skO_0 {s c : D} (hl : (nx c).length = nG s) : [] ++ nx c = skO s c 0 := by
  rw [skO, upd_0, List.nil_append, ← hl]
  apply List.ext_getElem
  · simp
  · intro k h1 h2
    simp [List.getD_eq_getElem?_getD, h1]
theorem skO_len {s c : D} {i : Nat} : (skO s c i).length = nG s := upd_len
def skL (s c : D) : List D := upd (fun k => .I (nxA c k)) (skG s c) (seeB s (cl c)) (nG s) (nG s)
def skQ (s c : D) : D := if ckE s c ≠ 0 then D0 cursorS else .L [.I (cl c), .L (skL s c)]
def loQ (s c : D) : Int := if ckE s c ≠ 0 then 0 else lsT s c (nG s)
def sSkQ : Sum := ⟨[storeS, cursorS], fun _ => none, fun
  | [s, c] => .tup [.dat cursorS (skQ s c), .dat u64 (.I (loQ s c)), .dat i64 (.I (ckE s c))]
  | _ => .und⟩
noncomputable def cSkQ : Ctx := ⟨tabQ, refsQ, [(22, sCkQ), (47, sLostQ), (55, sSees)], [(43, Try.f43), (67, Try.f67), (59, Try.f59), (78, Try.f78)], keep, mpsT⟩
theorem skQ_no {s c : D} (h : ckE s c ≠ 0) : Same cursorS (.L [D0 u64, .L []]) (skQ s c) := sameQ (by rw [skQ, if_pos h]; rfl)
theorem skQ_yes {s c : D} (h : ckE s c = 0) : .L [.I (cl c), .L (skL s c)] = skQ s c := by rw [skQ, if_neg (by simp [h])]
theorem loQ_no {s c : D} (h : ckE s c ≠ 0) : 0 = loQ s c := by rw [loQ, if_pos h]
theorem loQ_yes {s c : D} (h : ckE s c = 0) : lsT s c (nG s) = loQ s c := by rw [loQ, if_neg (by simp [h])]
theorem skL_len {s c : D} : (skL s c).length = nG s := upd_len
theorem curSame {a a' : D} {l m : List D} (hl : l.length = m.length) (h : ∀ j, j < l.length → (l.getD j .Z).int = (m.getD j .Z).int) (ha : a.int = a'.int := by rfl) : Same cursorS (.L [a, .L l]) (.L [a', .L m]) := by
  simp only [Same, Sames, D.nth, D.list]
  exact ⟨ha, ⟨hl, h⟩, trivial⟩
theorem skip_fun : FunOK cSkQ 200 Try.f34 sSkQ := fun s hs c hc _ => by
  refine ⟨fun h1 => ⟨Bears.same (skQ_no (bneT h1)), Bears.int (loQ_no (bneT h1)), Bears.int rfl, trivial⟩, fun h1 b h2 => ⟨fun h3 => ?_, fun h3 => ?_⟩⟩
  all_goals have hk : ckE s c = 0 := bneF h1
  all_goals have ok := ck_ok hk
  all_goals have h8 := ok.le8
  all_goals have hl := ok.len
  all_goals clear h1
  · have hn : nx c = [] := h2 h3
    have h0 : nG s = 0 := by rw [← hl, hn]; rfl
    refine ⟨0, Empty, 0, fun z => z.elim, fun z => z.elim, ?_, fun z => z.elim⟩
    refine ⟨{ i : Nat // i ≤ nG s }, 10, fun i => ([(9, .dat i64 (.I i.1)), (8, .dat i64 (.I (nG s))), (7, .dat (.slice ringS) (s.nth 0)), (0, .yld 9), (1, .ptr 7 storeS [] storeS), (2, .ptr 8 u64 [] u64)],
      [(9, .loop .ready), (8, .box u64 (.dat u64 (.I (cl c)))), (7, .box storeS (.dat storeS s)), (2, .box cursorS (.st [u64, .slice u64] [.dat u64 (c.nth 0), .own 6 u64])), (6, .grow u64 []), (1, .box cursorS (.dat cursorS c)), (0, .box storeS (.dat storeS s))]), fun i => nG s - i.1,
      ⟨0, Nat.zero_le _⟩, ⟨[], rfl, ⟨rfl, rfl, rfl, rfl, rfl, rfl, trivial⟩, ⟨rfl, rfl, rfl, rfl, rfl, rfl, rfl, trivial⟩⟩, ?_⟩
    intro z
    obtain ⟨i, hi⟩ := z
    refine ⟨fun h1 => ?_, fun h1 => ?_⟩
    · have hlt : i < nG s := ltN h1
      exact absurd hlt (by omega)
    · refine ⟨⟨hl, h8⟩, by kernel_rfl, Bears.same ?_, Bears.int (loQ_yes hk), Bears.int hk.symm, trivial⟩
      rw [← skQ_yes hk]
      refine curSame ?_ ?_
      · rw [skL_len, h0]; rfl
      · intro j hj; exact absurd hj (Nat.not_lt_zero _)
  · refine ⟨?_, ?_⟩
    · show 0 + (nx c).length ≤ 1073741824
      omega
    refine ⟨0, Empty, 0, fun z => z.elim, fun z => z.elim, ?_, fun z => z.elim⟩
    refine ⟨{ i : Nat // i ≤ nG s }, 11, fun i => ([(9, .dat i64 (.I i.1)), (8, .dat i64 (.I (nG s))), (7, .dat (.slice ringS) (s.nth 0)), (0, .yld 10), (1, .ptr 8 storeS [] storeS), (2, .ptr 9 u64 [] u64)],
      [(10, .loop .ready), (9, .box u64 (.dat u64 (.I (cl c)))), (8, .box storeS (.dat storeS s)), (2, .box cursorS (.st [u64, .slice u64] [.dat u64 (c.nth 0), .own 7 u64])), (7, .grow u64 (skO s c i.1)), (1, .box cursorS (.dat cursorS c)), (0, .box storeS (.dat storeS s))]), fun i => nG s - i.1,
      ⟨0, Nat.zero_le _⟩, ⟨[], rfl, ⟨rfl, rfl, rfl, rfl, rfl, rfl, trivial⟩, ⟨rfl, rfl, rfl, rfl, gro (skO_0 hl), rfl, rfl, trivial⟩⟩, ?_⟩
    intro z
    obtain ⟨i, hi⟩ := z
    refine ⟨fun h1 => ?_, fun h1 => ?_⟩
    · have hlt : i < nG s := ltN h1
      clear h1
      have g4 : (i : Int) < ((skO s c i).length : Int) := by rw [skO_len]; omega
      refine ⟨ix hlt, fun h2 => ?_, fun h2 => ⟨⟨Int.natCast_nonneg _, g4⟩, ⟨Int.natCast_nonneg _, g4⟩, by kernel_rfl, fun h3 => (by cases h3), fun _ => ?_⟩⟩
      all_goals replace h2 : (!seeB s (cl c) i) = _ := h2
      · rw [Bool.not_eq_true'] at h2
        exact ⟨⟨i + 1, hlt⟩, ⟨[], rfl, ⟨slot (i64_1 (n := i) (by omega)), rfl, rfl, rfl, rfl, rfl, trivial⟩, ⟨rfl, rfl, rfl, rfl, gro (upd_skip h2), rfl, rfl, trivial⟩⟩, stepLt hlt⟩
      · rw [Bool.not_eq_false'] at h2
        refine ⟨⟨i + 1, hlt⟩, ⟨[], rfl, ⟨slot (i64_1 (n := i) (by omega)), rfl, rfl, rfl, rfl, rfl, trivial⟩, ⟨rfl, rfl, rfl, rfl, gro ?_, rfl, rfl, trivial⟩⟩, stepLt hlt⟩
        refine Eq.trans ?_ (upd_set hlt h2)
        show (skO s c i).set i (.I (if fiA s i > ((skO s c i).getD i .Z).int then fiA s i else ((skO s c i).getD i .Z).int)) = _
        have e1 : (skO s c i).getD i .Z = (nx c).getD i .Z := by
          rw [skO, upd_get hlt, if_neg (fun h => Nat.lt_irrefl _ h.1)]
        rw [e1]
        rfl
    · have e : i = nG s := geN hi h1
      refine ⟨⟨hl, h8⟩, by kernel_rfl, Bears.same ?_, Bears.int (loQ_yes hk), Bears.int hk.symm, trivial⟩
      rw [← skQ_yes hk]
      refine curSame ?_ ?_
      · show (skO s c i).length = _
        rw [skL_len, skO_len]
      · intro j hj
        replace hj : j < (skO s c i).length := hj
        rw [skO_len] at hj
        show ((skO s c i).getD j .Z).int = _
        rw [skO, skL, upd_get hj, upd_get hj, e]
        split <;> rfl
def cSkR : Ctx := ⟨tabQ, refsQ, [(23, sCkQ), (56, sLostQ), (54, sSees)], [], keep, mpsT⟩
theorem skipR_fun : FunOK cSkR 200 Try.f35 sSkQ := fun s hs c hc _ => by
  refine ⟨fun h1 => ⟨Bears.same (skQ_no (bneT h1)), Bears.int (loQ_no (bneT h1)), Bears.int rfl, trivial⟩, fun h1 => ?_⟩
  have hk : ckE s c = 0 := bneF h1
  have ok := ck_ok hk
  have h8 := ok.le8
  have hl := ok.len
  clear h1
  refine ⟨{ i : Nat // i ≤ (nx c).length }, 5, fun i => ([(9, .dat i64 (.I i.1)), (8, .ptr 3 cursorS [] cursorS), (4, .ptr 2 cursorS [] cursorS), (3, .ptr 1 cursorS [] cursorS), (2, .ptr 0 storeS [] storeS)],
    [(4, .grow u64 (skU s c i.1)), (3, .box cursorS (.st [u64, .slice u64] [.dat u64 (.I (cl c)), .own 4 u64])), (2, .box cursorS (.st [u64, .slice u64] [.dat u64 (.I 0), .cst (.slice none 0 0)])), (1, .box cursorS (.dat cursorS c)), (0, .box storeS (.dat storeS s))]), fun i => (nx c).length - i.1,
    ⟨0, Nat.zero_le _⟩, ⟨[(4, 1000000)], rfl, ⟨rfl, rfl, rfl, rfl, rfl, trivial⟩, ⟨rfl, rfl, rfl, rfl, rfl, trivial⟩⟩, ?_⟩
  intro z
  obtain ⟨i, hi⟩ := z
  refine ⟨fun h1 => ?_, fun h1 => ?_⟩
  · have hlt : i < (nx c).length := ltN h1
    clear h1
    have hin : i < nG s := by omega
    have g1 : 0 ≤ (i : Int) ∧ (i : Int) < (nG s : Int) := by omega
    have g2 : 0 ≤ (i : Int) ∧ (i : Int) < ((nx c).length : Int) := by omega
    have g3 := @upd_len (fun k => .I (nxA c k)) (skG s c) (seeB s (cl c)) (nG s) i
    have g4 : (skU s c i).length + 1 ≤ 1073741824 := by rw [skU]; omega
    refine ⟨g2, g1, by kernel_rfl, fun h2 => ⟨g1, g4, ?_⟩, fun h2 => ⟨g4, ?_⟩⟩
    all_goals replace h2 : seeB s (cl c) i = _ := h2
    · refine ⟨⟨i + 1, hlt⟩, ⟨[(4, 22)], rfl, ⟨slot (i64_1 (n := i) (by omega)), rfl, rfl, rfl, rfl, trivial⟩, ⟨gro ?_, rfl, rfl, rfl, rfl, trivial⟩⟩, stepLt hlt⟩
      refine Eq.trans ?_ (upd_app (nG s) hin)
      rw [if_pos h2]; rfl
    · refine ⟨⟨i + 1, hlt⟩, ⟨[(4, 22)], rfl, ⟨slot (i64_1 (n := i) (by omega)), rfl, rfl, rfl, rfl, trivial⟩, ⟨gro ?_, rfl, rfl, rfl, rfl, trivial⟩⟩, stepLt hlt⟩
      refine Eq.trans ?_ (upd_app (nG s) hin)
      rw [if_neg (by rw [h2]; decide)]; rfl
  · have e : i = (nx c).length := geN hi h1
    have e2 : i = nG s := by omega
    subst e2
    exact ⟨⟨hl, h8⟩, by kernel_rfl, Bears.same (sameQ (skQ_yes hk)), Bears.int (loQ_yes hk), Bears.int hk.symm, trivial⟩
def sLoQ : Sum := ⟨[storeS, cursorS], fun _ => none, fun
  | [s, c] => .tup [.dat u64 (.I (loQ s c)), .dat i64 (.I (ckE s c))]
  | _ => .und⟩
theorem Lost_fun : FunOK cSkQ 200 Try.f13 sLoQ := fun s hs c hc _ => by
  refine ⟨fun h1 => ⟨Bears.int (loQ_no (bneT h1)), Bears.int rfl, trivial⟩, fun h1 => ?_⟩
  have hk : ckE s c = 0 := bneF h1
  have ok := ck_ok hk
  exact ⟨⟨ok.len, ok.le8⟩, Bears.int (loQ_yes hk), Bears.int hk.symm, trivial⟩
theorem LostR_fun : FunOK cSkR 200 Try.f24 sLoQ := fun s hs c hc _ => by
  refine ⟨fun h1 => ⟨Bears.int (loQ_no (bneT h1)), Bears.int rfl, trivial⟩, fun h1 => ?_⟩
  have hk : ckE s c = 0 := bneF h1
  have ok := ck_ok hk
  exact ⟨⟨ok.len, ok.le8⟩, Bears.int (loQ_yes hk), Bears.int hk.symm, trivial⟩
end Go.Proofs.Ytmdhmjidmiemmaa

namespace Go.Proofs.Ytmdhmjidmiemmaa
open Go Go.Vm Rg
set_option linter.unusedSimpArgs false
set_option linter.unusedVariables false
set_option maxRecDepth 10000
def frQ (r : D) (no : Int) : List D := if chk r ≠ 0 then [] else fromL r no (fromN r no)
def wtF (s c : D) (i : Nat) : List D := if seeB s (cl c) i = true then frQ (rgAt s i) (nxA c i) else []
def hdA (s c : D) (i : Nat) : D := if wtF s c i = [] then D0 headS else .L [(wtF s c i).getD 0 .Z, .B true]
def hdF (s c : D) (i : Nat) : D := .F fun j => if j < i then hdA s c j else D0 headS
theorem hd_0 (s c : D) : D0 (.arr 8 headS) = hdF s c 0 := by
  rw [hdF, D0]; exact congrArg D.F (funext fun j => (if_neg (Nat.not_lt_zero _)).symm)
theorem hd_set {s c : D} {i : Nat} {x : D} (hx : x = hdA s c i) : D.puts (.arr 8 headS) (hdF s c i) [.idx i] x = hdF s c (i + 1) := by
  rw [D.puts_idx, hdF, hdF]
  refine congrArg D.F (funext fun j => ?_)
  by_cases h : j = i
  · rw [if_pos h, if_pos (by omega), h, ← hx]; rfl
  · rw [if_neg h]
    show (if j < i then hdA s c j else D0 headS) = _
    by_cases h2 : j < i
    · rw [if_pos h2, if_pos (by omega)]
    · rw [if_neg h2, if_neg (by omega)]
theorem hd_skip {s c : D} {i : Nat} (hx : wtF s c i = []) : hdF s c i = hdF s c (i + 1) := by
  rw [hdF, hdF]
  refine congrArg D.F (funext fun j => ?_)
  by_cases h2 : j < i
  · rw [if_pos h2, if_pos (by omega)]
  · rw [if_neg h2]
    by_cases h : j = i
    · rw [if_pos (by omega), h, hdA, if_pos hx]
    · rw [if_neg (by omega)]
theorem wtF_no {s c : D} {i : Nat} (h : seeB s (cl c) i = false) : wtF s c i = [] := by rw [wtF, h]; rfl
theorem wtF_yes {s c : D} {i : Nat} (h : seeB s (cl c) i = true) : frQ (rgAt s i) (nxA c i) = wtF s c i := by rw [wtF, if_pos h]
theorem lenPos {l : List D} (h : ltB 0 (l.length : Int) = true) : l ≠ [] ∧ (0 ≤ (0 : Int) ∧ (0 : Int) < (l.length : Int)) := by
  rw [ltB_true] at h
  refine ⟨fun e => ?_, Int.le_refl _, h⟩
  rw [e] at h; exact absurd h (by decide)
theorem lenNil {l : List D} (h : ltB 0 (l.length : Int) = false) : l = [] := by
  rw [ltB_false] at h
  exact List.length_eq_zero_iff.1 (by omega)
def sHd : Sum := ⟨[storeS, cursorS], fun
  | [s, c] => some ((nx c).length = nG s ∧ nG s ≤ 8)
  | _ => none, fun
  | [s, c] => .dat (.arr 8 headS) (hdF s c (nG s))
  | _ => .und⟩
noncomputable def cHd : Ctx := ⟨tabQ, refsQ, [(44, Rg.sFrom), (55, sSees)], [(43, Try.f43), (67, Try.f67)], keep, mpsT⟩
theorem heads_fun : FunOK cHd 200 Try.f74 sHd := fun s hs c hc h => by
  obtain ⟨hl, h8⟩ : (nx c).length = nG s ∧ nG s ≤ 8 := h
  have gN : ∀ {k : Nat}, k < nG s → 0 ≤ (k : Int) ∧ (k : Int) < ((nx c).length : Int) := fun h => by omega
  refine ⟨0, Empty, 0, fun z => z.elim, fun z => z.elim, ?_, fun z => z.elim⟩
  refine ⟨{ i : Nat // i ≤ nG s }, 6, fun i => ([(9, .dat i64 (.I i.1)), (8, .dat i64 (.I (nG s))), (7, .dat (.slice ringS) (s.nth 0)), (0, .yld 5), (1, .ptr 3 storeS [] storeS), (2, .ptr 4 u64 [] u64)],
    [(5, .loop .ready), (4, .box u64 (.dat u64 (.I (cl c)))), (3, .box storeS (.dat storeS s)), (2, .box (.arr 8 headS) (.dat (.arr 8 headS) (hdF s c i.1))), (1, .box cursorS (.dat cursorS c)), (0, .box storeS (.dat storeS s))]), fun i => nG s - i.1,
    ⟨0, Nat.zero_le _⟩, ⟨[], rfl, ⟨rfl, rfl, rfl, rfl, rfl, rfl, trivial⟩, ⟨rfl, rfl, rfl, bx (hd_0 s c), rfl, rfl, trivial⟩⟩, ?_⟩
  intro z
  obtain ⟨i, hi⟩ := z
  refine ⟨fun h1 => ?_, fun h1 => ?_⟩
  · have hlt : i < nG s := ltN h1
    clear h1
    have h8i : 0 ≤ (i : Int) ∧ (i : Int) < 8 := by omega
    refine ⟨ix hlt, fun h2 => ?_, fun h2 => ⟨gN hlt, by kernel_rfl, fun h3 => ?_, fun h3 => ?_⟩⟩
    all_goals replace h2 : (!seeB s (cl c) i) = _ := h2
    · rw [Bool.not_eq_true'] at h2
      exact ⟨⟨i + 1, hlt⟩, ⟨[], rfl, ⟨slot (i64_1 (n := i) (by omega)), rfl, rfl, rfl, rfl, rfl, trivial⟩, ⟨rfl, rfl, rfl, bx (hd_skip (wtF_no h2)), rfl, rfl, trivial⟩⟩, stepLt hlt⟩
    all_goals rw [Bool.not_eq_false'] at h2
    all_goals replace h3 : ltB 0 ((frQ (rgAt s i) (nxA c i)).length : Int) = _ := h3
    all_goals rw [wtF_yes h2] at h3
    · have h4 := lenPos h3
      have h5 := h4.2
      rw [← wtF_yes h2] at h5
      refine ⟨h5, h8i, fun h => (by cases h), fun _ => ?_⟩
      refine ⟨⟨i + 1, hlt⟩, ⟨[], rfl, ⟨slot (i64_1 (n := i) (by omega)), rfl, rfl, rfl, rfl, rfl, trivial⟩, ⟨rfl, rfl, rfl, bx (hd_set ?_), rfl, rfl, trivial⟩⟩, stepLt hlt⟩
      rw [hdA, if_neg h4.1, ← wtF_yes h2]; rfl
    · refine ⟨fun h => (by cases h), fun _ => ?_⟩
      exact ⟨⟨i + 1, hlt⟩, ⟨[], rfl, ⟨slot (i64_1 (n := i) (by omega)), rfl, rfl, rfl, rfl, rfl, trivial⟩, ⟨rfl, rfl, rfl, bx (hd_skip (lenNil h3)), rfl, rfl, trivial⟩⟩, stepLt hlt⟩
  · have e : i = nG s := geN hi h1
    subst e
    exact Bears.same Same.rfl
def sCmpH : Sum := ⟨[headS, headS], fun _ => none, fun
  | [a, b] => .dat .bool (.B (ltB (keyO (a.nth 0)) (keyO (b.nth 0))))
  | _ => .und⟩
theorem cmpH_fun : FunOK c0Q 40 Try.f76 sCmpH := fun a ha b hb _ => Bears.bool rfl
noncomputable def cFi : Ctx := ⟨tabQ, refsQ, [(74, sHd), (76, sCmpH)], [(75, Try.f75)], keep, mpsT⟩
/-- The number of the ring with the first event, among the first i. -/
def fstN (s c : D) : Nat → Int
  | 0 => -1
  | i + 1 => if wtF s c i ≠ [] ∧ (fstN s c i < 0 ∨ keyO ((wtF s c i).getD 0 .Z) < keyO ((wtF s c (fstN s c i).toNat).getD 0 .Z)) then i else fstN s c i
def hdR (s c : D) : List D := (List.range 8).map (hdF s c (nG s)).nth
theorem hdR_get {s c : D} {i : Nat} (hi : i < 8) : (hdR s c).getD i .Z = if i < nG s then hdA s c i else D0 headS := by
  rw [hdR, List.getD_eq_getElem?_getD, List.getElem?_map, List.getElem?_range hi]; rfl
theorem fst_rng (s c : D) : ∀ i, (fstN s c i = -1) ∨ (0 ≤ fstN s c i ∧ fstN s c i < i ∧ wtF s c (fstN s c i).toNat ≠ [])
  | 0 => .inl rfl
  | i + 1 => by
    rw [fstN]
    split
    · rename_i h
      exact .inr ⟨by omega, by omega, by rw [Int.toNat_natCast]; exact h.1⟩
    · rcases fst_rng s c i with h | h
      · exact .inl h
      · exact .inr ⟨h.1, by omega, h.2.2⟩
theorem hdR_at {s c : D} {i : Nat} (h8 : i < 8) (hi : i < nG s) (hne : wtF s c i ≠ []) : (hdR s c).getD i .Z = .L [(wtF s c i).getD 0 .Z, .B true] := by
  rw [hdR_get h8, if_pos hi, hdA, if_neg hne]
theorem hdR_no {s c : D} {i : Nat} (h8 : i < 8) (h : ¬ (i < nG s ∧ wtF s c i ≠ [])) : (hdR s c).getD i .Z = D0 headS := by
  rw [hdR_get h8]
  by_cases hi : i < nG s
  · rw [if_pos hi, hdA, if_pos]
    by_cases hw : wtF s c i = []
    · exact hw
    · exact absurd ⟨hi, hw⟩ h
  · rw [if_neg hi]
theorem eqH_yes : eqD headS (D0 headS) (D0 headS) = true := by kernel_rfl
theorem eqH_no {x : D} : eqD headS (.L [x, .B true]) (D0 headS) = false := by
  simp [eqD, eqDs, D0, D0s, D.nth, D.bool]
theorem hdR_len {s c : D} : (hdR s c).length = 8 := by simp [hdR]
def fstM (s c : D) (i : Nat) : Int := fstN s c (min i (nG s))
theorem fstM_rng (s c : D) (i : Nat) : (fstM s c i = -1) ∨ (0 ≤ fstM s c i ∧ fstM s c i < i ∧ fstM s c i < nG s ∧ wtF s c (fstM s c i).toNat ≠ []) := by
  rcases fst_rng s c (min i (nG s)) with h | h
  · exact .inl h
  · refine .inr ⟨h.1, ?_, ?_, h.2.2⟩ <;> have := h.2.1 <;> simp only [fstM] <;> omega
def fstT (s c : D) (i : Nat) : Bool := !eqD headS ((hdR s c).getD i .Z) (D0 headS) && (ltB (fstM s c i) 0 || ltB (keyO (((hdR s c).getD i .Z).nth 0)) (keyO (((hdR s c).getD (fstM s c i).toNat .Z).nth 0)))
theorem fstT_eq {s c : D} {i : Nat} (h8 : i < 8) : fstT s c i = decide (i < nG s ∧ wtF s c i ≠ [] ∧ (fstM s c i < 0 ∨ keyO ((wtF s c i).getD 0 .Z) < keyO ((wtF s c (fstM s c i).toNat).getD 0 .Z))) := by
  rw [fstT]
  by_cases h : i < nG s ∧ wtF s c i ≠ []
  · rw [hdR_at h8 h.1 h.2, eqH_no, Bool.not_false, Bool.true_and]
    rcases fstM_rng s c i with h1 | h1
    · rw [show ltB (fstM s c i) 0 = true by rw [ltB_true]; omega, Bool.true_or]
      exact (decide_eq_true ⟨h.1, h.2, .inl (by omega)⟩).symm
    · rw [show ltB (fstM s c i) 0 = false by rw [ltB_false]; omega, Bool.false_or, hdR_at (i := (fstM s c i).toNat) (by omega) (by omega) h1.2.2.2]
      show ltB (keyO ((wtF s c i).getD 0 .Z)) (keyO ((wtF s c (fstM s c i).toNat).getD 0 .Z)) = _
      rw [ltB]
      exact decide_eq_decide.2 ⟨fun h3 => ⟨h.1, h.2, .inr h3⟩, fun h3 => h3.2.2.resolve_left (by omega)⟩
  · rw [hdR_no h8 h, eqH_yes, Bool.not_true, Bool.false_and]
    exact (decide_eq_false fun h' => h ⟨h'.1, h'.2.1⟩).symm
theorem fstM_yes {s c : D} {i : Nat} (h8 : i < 8) (h : fstT s c i = true) : (i : Int) = fstM s c (i + 1) := by
  rw [fstT_eq h8] at h
  have h := of_decide_eq_true h
  have e : min i (nG s) = i := by omega
  rw [fstM, e] at h
  rw [fstM, show min (i + 1) (nG s) = i + 1 by omega, fstN, if_pos h.2]
theorem fstM_no {s c : D} {i : Nat} (h8 : i < 8) (h : fstT s c i = false) : fstM s c i = fstM s c (i + 1) := by
  rw [fstT_eq h8] at h
  have h := of_decide_eq_false h
  by_cases hi : i < nG s
  · have e : min i (nG s) = i := by omega
    rw [fstM, e] at h
    rw [fstM, fstM, e, show min (i + 1) (nG s) = i + 1 by omega, fstN, if_neg fun h' => h ⟨hi, h'⟩]
  · rw [fstM, fstM, show min i (nG s) = min (i + 1) (nG s) by omega]
theorem fstM_8 {s c : D} (h : nG s ≤ 8) : fstM s c 8 = fstN s c (nG s) := by rw [fstM, show min 8 (nG s) = nG s by omega]
def sFi : Sum := ⟨[storeS, cursorS], fun
  | [s, c] => some ((nx c).length = nG s ∧ nG s ≤ 8)
  | _ => none, fun
  | [s, c] => .tup [.dat i64 (.I (fstN s c (nG s))), .dat storedS (if fstN s c (nG s) < 0 then D0 storedS else (wtF s c (fstN s c (nG s)).toNat).getD 0 .Z)]
  | _ => .und⟩
theorem first_fun : FunOK cFi 200 Try.f57 sFi := fun s hs c hc h => by
  obtain ⟨hl, h8⟩ : (nx c).length = nG s ∧ nG s ≤ 8 := h
  refine ⟨⟨hl, h8⟩, ?_⟩
  refine ⟨{ i : Nat // i ≤ 8 }, 5, fun i => ([(12, .dat i64 (.I i.1)), (11, .dat i64 (.I (8 : Nat))), (10, .own 3 headS), (7, .dat i64 (.I (fstM s c i.1))), (4, .ptr 4 headS [] headS), (0, .own 3 headS), (2, .fn 76 [])],
    [(4, .box headS (.dat headS (D0 headS))), (3, .grow headS (hdR s c)), (2, .box storedS (.dat storedS (D0 storedS))), (1, .box cursorS (.dat cursorS c)), (0, .box storeS (.dat storeS s))]), fun i => 8 - i.1,
    ⟨0, Nat.zero_le _⟩, ⟨[], rfl, ⟨rfl, rfl, rfl, slot (by rw [fstM, Nat.zero_min]; rfl), rfl, rfl, rfl, trivial⟩, ⟨rfl, rfl, rfl, rfl, rfl, trivial⟩⟩, ?_⟩
  intro z
  obtain ⟨i, hi⟩ := z
  have rg := fstM_rng s c i
  refine ⟨fun h1 => ?_, fun h1 => ?_⟩
  · have hlt : i < 8 := by have h : ltB (i : Int) 8 = true := h1; simp only [ltB_true] at h; omega
    clear h1
    have hin : 0 ≤ (i : Int) ∧ (i : Int) < ((hdR s c).length : Int) := by rw [hdR_len]; omega
    refine ⟨hin, fun h2 => ?_, by kernel_rfl, fun h2 => ?_, fun h2 => ?_⟩
    · have h4 : ltB (fstM s c i) 0 = false := h2.1
      rw [ltB_false] at h4
      refine ⟨h4, ?_⟩
      show fstM s c i < ((hdR s c).length : Int)
      rw [hdR_len]
      omega
    all_goals replace h2 : fstT s c i = _ := h2
    · exact ⟨⟨i + 1, hlt⟩, ⟨[], rfl, ⟨slot (i64_1 (n := i) (by omega)), rfl, rfl, slot (fstM_yes hlt h2), rfl, rfl, rfl, trivial⟩, ⟨rfl, rfl, rfl, rfl, rfl, trivial⟩⟩, stepLt hlt⟩
    · exact ⟨⟨i + 1, hlt⟩, ⟨[], rfl, ⟨slot (i64_1 (n := i) (by omega)), rfl, rfl, slot (fstM_no hlt h2), rfl, rfl, rfl, trivial⟩, ⟨rfl, rfl, rfl, rfl, rfl, trivial⟩⟩, stepLt hlt⟩
  · have e : i = 8 := by have h : ltB (i : Int) 8 = false := h1; simp only [ltB_false] at h; omega
    subst e
    have e8 := fstM_8 (c := c) h8
    rw [e8] at rg
    clear h1
    refine ⟨fun h2 => ?_, fun h2 => ?_⟩
    all_goals replace h2 : ltB (fstM s c 8) 0 = _ := h2
    all_goals rw [e8] at h2
    · rw [ltB_true] at h2
      refine ⟨Bears.int (show (-1 : Int) = fstN s c (nG s) by omega), Bears.same ?_, trivial⟩
      rw [if_pos h2]; exact Same.rfl
    · rw [ltB_false] at h2
      have rg := rg.resolve_left (by omega)
      have g : 0 ≤ fstM s c 8 ∧ fstM s c 8 < 8 := by rw [e8]; omega
      refine ⟨g, by kernel_rfl, Bears.int e8, Bears.same ?_, trivial⟩
      rw [if_neg (by omega)]
      show Same storedS (((hdR s c).getD (fstM s c 8).toNat .Z).nth 0) _
      rw [e8, hdR_at (by omega) (by omega) rg.2.2.2]
      exact Same.rfl
end Go.Proofs.Ytmdhmjidmiemmaa
