/- Streams: the law's helpers. -/
import Derived.Test.YtmcgebhffdedpaaWWc
namespace Go.Proofs.Ytmcgebhffdedpaa
open Go Go.Vm
set_option linter.unusedSimpArgs false
set_option linter.unusedVariables false
set_option maxRecDepth 10000
def stD (a b c d e f : Int) : D := .L [.L [.I a, .I b], .I c, .I d, .I e, .I f]
def sStored : Sum := ⟨[u64, u64, u64, u64, i64, i64], fun _ => none, fun
  | [a, b, c, d, e, f] => .dat storedS (stD a.int b.int c.int d.int e.int f.int)
  | _ => .und⟩
theorem stored_fun : FunOK c0W 60 Try.f26 sStored := fun a _ b _ c _ d _ e _ f _ _ => Bears.same Same.rfl
def shownL : List D := [stD 0 1 1 5 0 7, stD 1 1 3 5 1 8, stD 0 2 4 9 0 (-1)]
def sShown : OSum := ⟨[], fun _ => none, storedS, false, fun _ => shownL⟩
def cSh : Ctx := ⟨tabW, refsW, [(26, sStored)], [], keep, mpsW⟩
theorem shown_fun : FunOOK cSh 60 Try.f23 sShown := fun _ => by
  exact ⟨⟨rfl, rfl⟩, rfl, fun j h1 => Bears.same Same.rfl⟩
def sClone : OSum := ⟨[.slice storedS], fun
  | [l] => some (0 < l.list.length ∧ l.list.length ≤ 1000)
  | _ => some False, storedS, false, fun
  | [l] => l.list
  | _ => []⟩
theorem clone_fun : FunOOK c0W 60 Try.f37 sClone := fun l hl h => by
  replace h : 0 < l.list.length ∧ l.list.length ≤ 1000 := h
  refine fun b => fun h1 => ⟨fun h2 => ?_, fun h2 => ⟨?_, ⟨rfl, rfl⟩, ?_, fun j => fun h3 => ?_⟩⟩
  · have h1 : l.list = [] := h1 h2
    rw [h1] at h
    exact absurd h.1 (Nat.lt_irrefl 0)
  · show 0 + l.list.length ≤ 1073741824
    omega
  · show ([] ++ l.list).length = l.list.length
    rw [List.nil_append]
  · refine Bears.same ?_
    show Same storedS (([] ++ l.list).getD j .Z) (l.list.getD j .Z)
    rw [List.nil_append]; exact Same.rfl
def sFails : Sum := ⟨[.slice storedS, i64, i64], fun _ => none, fun
  | [l, e, n] => .dat .bool (.B (chkE l.list == e.int && chkN l.list == n.int))
  | _ => .und⟩
def cFa : Ctx := ⟨tabW, refsW, [(6, sChk)], [], keep, mpsW⟩
theorem fails_fun : FunOK cFa 60 Try.f25 sFails := fun l _ e _ n _ _ => Bears.bool rfl
def evD : D := .L [.I 1, .I 1, .I 3]
def sApp : Sum := ⟨[.slice storedS, .struct [u64, i64, i64], u64], fun
  | [l, x, t] => some (l = .L shownL ∧ x = evD ∧ t = .I 9)
  | _ => some False, fun
  | [l, x, t] => .tup [.dat (.slice storedS) (.L (shownL ++ [stD 1 2 5 9 1 3])), .dat i64 (.I 0)]
  | _ => .und⟩
noncomputable def fnsA : List (Nat × Func) := [(40, Try.f40), (44, Try.f44)]
noncomputable def cAp : Ctx := ⟨tabW, refsW, [(6, sChk), (27, sCnt)], fnsA, keep, (37 + 1000000, .osum sClone) :: mpsW⟩
theorem app_fun : FunOK cAp 100 Try.f24 sApp := fun l hl x hx t ht h => by
  replace h : l = .L shownL ∧ x = evD ∧ t = .I 9 := h
  obtain ⟨rfl, rfl, rfl⟩ := h
  refine ⟨fun h1 => absurd h1 (by decide), fun h1 => ⟨fun h2 => ⟨by decide, ?_⟩, fun h2 => absurd h2 (by decide)⟩⟩
  refine ⟨Bool, 5, fun b => ([(3, .dat i64 (.I (if b then 2 else 1))), (4, .dat (.slice storedS) (.L shownL)), (0, .yld 4), (1, .ptr 3 (.slice storedS) [] (.slice storedS))], [(4, .loop .ready), (3, .box (.slice storedS) (.dat (.slice storedS) (.L shownL))), (2, .box storedS (.dat storedS (stD 1 1 5 9 1 3))), (1, .grow storedS []), (0, .box (.struct [u64, i64, i64]) (.dat (.struct [u64, i64, i64]) evD))]), fun b => (if b then 1 else 0), true, ⟨[], rfl, ⟨rfl, rfl, rfl, rfl, trivial⟩, ⟨rfl, rfl, rfl, rfl, rfl, trivial⟩⟩, ?_⟩
  intro b
  cases b
  · refine ⟨fun h1 => ⟨by decide, fun h2 => ⟨fun h3 => ⟨fun h4 => absurd h4 (by decide), fun h4 => ⟨fun h5 => ⟨by decide, by decide⟩, fun h5 => absurd h5 (by decide), fun h5 => ⟨fun h6 => absurd h6 (by decide), fun h6 => ⟨fun h7 => absurd h7 (by decide), fun h7 => ⟨(by show 0 < 3 ∧ 3 ≤ 1000; decide), (by show 3 + 1 ≤ 1073741824; decide), by kernel_rfl, Bears.same (eqSame (by kernel_rfl)), Bears.int rfl, trivial⟩⟩⟩⟩⟩, fun h3 => absurd h3 (by decide)⟩, fun h2 => absurd h2 (by decide)⟩, fun h1 => absurd h1 (by decide)⟩
  · refine ⟨fun h1 => ⟨by decide, fun h2 => absurd h2 (by decide), fun h2 => ⟨fun h3 => absurd h3 (by decide), fun h3 => ?_⟩⟩, fun h1 => absurd h1 (by decide)⟩
    exact ⟨false, ⟨[], rfl, ⟨rfl, rfl, rfl, rfl, trivial⟩, ⟨rfl, rfl, rfl, rfl, rfl, trivial⟩⟩, by decide⟩
def sTrue : Sum := ⟨[], fun _ => none, fun _ => .dat .bool (.B true)⟩
noncomputable def cAw : Ctx := ⟨tabW, refsW, [(8, sFil pVis), (24, sApp), (25, sFails), (10, sSame), (26, sStored)], [], keep, (23 + 1000000, .osum sShown) :: mpsW⟩
theorem awake_fun : FunOK cAw 100 Try.f4 sTrue := fun _ => by
  refine ⟨⟨rfl, rfl, rfl⟩, fun h1 => ⟨by decide, by show (0 : Int) < 3; decide⟩, fun h1 => ⟨by decide, by show (2 : Int) < 3; decide⟩, fun h1 => (by show 3 + 1 ≤ 1073741824; decide), by kernel_rfl, Bears.bool (by kernel_rfl)⟩
end Go.Proofs.Ytmcgebhffdedpaa
