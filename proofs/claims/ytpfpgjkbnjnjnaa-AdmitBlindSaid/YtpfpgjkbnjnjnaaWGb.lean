/- Accounts of rings: lists. -/
import Derived.Test.YtpfpgjkbnjnjnaaWGa
namespace Go.Proofs.Ytpfpgjkbnjnjnaa.Rg
open Go Go.Vm
set_option linter.unusedSimpArgs false
set_option maxRecDepth 10000

def lst (r : D) (n : Nat) : List D := (List.range n).map (evAt r)
theorem lst_succ (r : D) (n : Nat) : lst r (n + 1) = lst r n ++ [evAt r n] := by simp [lst, List.range_succ]
theorem lst_len (r : D) (n : Nat) : (lst r n).length = n := by simp [lst]
theorem lst_get (r : D) (n i : Nat) (h : i < n) : (lst r n)[i]?.getD .Z = evAt r i := by simp [lst, h]
theorem cap_le {r : D} (h : badR r = false) : cap r ≤ 64 ∧ ((cap r : Nat) : Int) = (r.nth 3).int - (r.nth 2).int ∧ (cap r : Int) ≤ (r.nth 1).int := by
  have hb := badR_false h
  unfold cap; omega

def sList : Sum := ⟨[ringS], fun
  | [r] => some (badR r = false)
  | _ => none, fun
  | [r] => .dat (.slice storedS) (.L (lst r (cap r)))
  | _ => .und⟩
def cListR : Ctx := ⟨tab, [], [], [], keep, []⟩

/-! ### From, List, Get, Lost -/
def stI (r : D) (no : Int) : Int := if (r.nth 2).int > no then (r.nth 2).int else no
def fromI (r : D) (no : Int) : Nat := (stI r no - (r.nth 2).int).toNat
def fromN (r : D) (no : Int) : Nat := ((r.nth 3).int - stI r no).toNat
def fromL (r : D) (no : Int) (n : Nat) : List D := (List.range n).map fun k => evAt r (fromI r no + k)
theorem fromL_succ (r : D) (no : Int) (n : Nat) : fromL r no (n + 1) = fromL r no n ++ [evAt r (fromI r no + n)] := by simp [fromL, List.range_succ]
theorem stI_le (r : D) (no : Int) : (r.nth 2).int ≤ stI r no ∧ no ≤ stI r no := by
  unfold stI; split <;> omega
def sFrom : Sum := ⟨[ringS, u64], fun _ => none, fun
  | [r, no] => .tup [.dat (.slice storedS) (.L (if chk r ≠ 0 then [] else fromL r no.int (fromN r no.int))), .dat i64 (.I (chk r))]
  | _ => .und⟩
noncomputable def cFrom : Ctx := ⟨tab, [(192, .nilFunc)], [(79, sPlace), (63, sCheck)], [(85, Try.f85), (95, Try.f95)], keep, []⟩
theorem chk_bad {r : D} (h : chk r = 0) : badR r = false := by
  cases hb : badR r with
  | false => rfl
  | true => simp [chk, hb] at h
theorem from_fun : FunOK cFrom 100 Try.f93 sFrom := fun r _ no hno _ => by
  refine ⟨fun h1 => ⟨Bears.same ?_, Bears.int ?_, trivial⟩, fun h1 => ?_⟩
  · replace h1 : (chk r != 0) = true := h1
    simp at h1
    simp [h1]
  · rfl
  replace h1 : (chk r != 0) = false := h1
  simp at h1
  have hb := badR_false (chk_bad h1)
  obtain ⟨hc1, hc, hc2⟩ := cap_le (chk_bad h1)
  have hw : IntKind.u64.wrap (r.nth 1).int = (r.nth 1).int := wrap_u64 (by omega) (by omega)
  have hs := stI_le r no.int
  have hno2 : no.int ≤ 18446744073709551615 := hno.2
  refine ⟨{ k : Nat // k ≤ fromN r no.int }, 8, fun k => ([(0, .yld 6), (2, .ptr 4 ringS [] ringS), (4, .dat u64 (.I (stI r no.int + k.1)))],
    [(6, .loop .ready), (4, .box ringS (.dat ringS r)), (3, .box (.slice storedS) (.own 7 storedS)), (7, .grow storedS (fromL r no.int k.1)), (0, .box ringS (.dat ringS r))]), fun k => fromN r no.int - k.1,
    ⟨0, by omega⟩, ⟨[(7, 2)], rfl, ⟨rfl, rfl, ?_, trivial⟩, ⟨rfl, rfl, rfl, rfl, rfl, trivial⟩⟩, ?_⟩
  · refine congrArg (fun n => some (HV.dat u64 (D.I n))) ?_
    show stI r no.int = stI r no.int + ((0 : Nat) : Int)
    simp
  intro x
  obtain ⟨k, hk⟩ := x
  have hn : (fromN r no.int : Int) = (r.nth 3).int - stI r no.int ∨ fromN r no.int = 0 := by unfold fromN; omega
  refine ⟨fun h2 => ⟨?_, ?_, ?_, by kernel_rfl, fun h3 => ?_, fun h3 => ?_⟩, fun h2 => ⟨Bears.same ?_, Bears.int ?_, trivial⟩⟩
  all_goals simp at h2
  · show IntKind.u64.wrap (r.nth 1).int ≠ 0
    omega
  · have hp := placeI_lt (no := stI r no.int + k) hb.1 hb.2.1 (by omega) (by omega)
    show 0 ≤ placeI (r.nth 1).int (stI r no.int + k) ∧ placeI (r.nth 1).int (stI r no.int + k) < ((64 : Nat) : Int)
    omega
  · show (fromL r no.int k).length + 1 ≤ 1073741824
    simp only [fromL, List.length_map, List.length_range]
    unfold fromN at hk; omega
  · simp at h3
  · refine ⟨⟨k + 1, by unfold fromN; omega⟩, ⟨[(7, 20)], rfl, ⟨rfl, rfl, ?_, trivial⟩, ⟨rfl, rfl, rfl, ?_, rfl, trivial⟩⟩, ?_⟩
    · refine congrArg (fun n => some (HV.dat u64 (D.I n))) ?_
      show IntKind.u64.wrap (stI r no.int + (k : Int) + 1) = stI r no.int + ((k + 1 : Nat) : Int)
      rw [wrap_u64 (by omega) (by omega)]; omega
    · refine congrArg (fun l => some (VO.grow storedS l)) ?_
      show fromL r no.int k ++ [(r.nth 4).nth (placeI (r.nth 1).int (stI r no.int + k)).toNat] = fromL r no.int (k + 1)
      rw [fromL_succ]
      have e : (r.nth 2).int + ((fromI r no.int + k : Nat) : Int) = stI r no.int + k := by unfold fromI; omega
      simp only [evAt, pl, e]
    · show fromN r no.int - (k + 1) < fromN r no.int - k
      have : k < fromN r no.int := by unfold fromN; omega
      omega
  · have e : k = fromN r no.int := by
      rcases hn with hn | hn <;> omega
    subst e
    simp [h1]
  · simp [h1]
def sListP : Sum := ⟨[ringS], fun _ => none, fun
  | [r] => .tup [.dat (.slice storedS) (.L (if chk r ≠ 0 then [] else fromL r 0 (fromN r 0))), .dat i64 (.I (chk r))]
  | _ => .und⟩
def cListP : Ctx := ⟨tab, [], [(93, sFrom)], [], keep, []⟩
theorem listP_fun : FunOK cListP 40 Try.f75 sListP := fun _ _ _ => ⟨Bears.rfl, Bears.int rfl, trivial⟩

def getE (r : D) (no : Int) : Int := if chk r ≠ 0 then chk r else if ltB no (r.nth 2).int || leB (r.nth 3).int no then 7 else 0
def getD' (r : D) (no : Int) : D := if getE r no ≠ 0 then D0 storedS else (r.nth 4).nth (placeI (r.nth 1).int no).toNat
def sGet : Sum := ⟨[ringS, u64], fun _ => none, fun
  | [r, no] => .tup [.dat storedS (getD' r no.int), .dat i64 (.I (getE r no.int))]
  | _ => .und⟩
def cGet : Ctx := ⟨tab, [], [(79, sPlace), (63, sCheck)], [], keep, []⟩
theorem get_fun : FunOK cGet 60 Try.f73 sGet := fun r _ no hno _ => by
  refine ⟨fun h1 => ⟨Bears.same ?_, Bears.int ?_, trivial⟩, fun h1 => ⟨fun h2 => ⟨Bears.same ?_, Bears.int ?_, trivial⟩, fun h2 => ⟨?_, ?_, ⟨Bears.same ?_, Bears.int ?_, trivial⟩⟩⟩⟩
  all_goals replace h1 : (chk r != 0) = _ := h1
  all_goals simp at h1
  · have e : getE r no.int ≠ 0 := by simp [getE, h1]
    simp only [getD', if_pos e]
    exact Same.rfl
  · show chk r = getE r no.int
    simp [getE, h1]
  all_goals replace h2 : (ltB no.int (r.nth 2).int || leB (r.nth 3).int no.int) = _ := h2
  · have e : getE r no.int ≠ 0 := by simp [getE, h1, h2]
    simp only [getD', if_pos e]
    exact Same.rfl
  · show 7 = getE r no.int
    simp [getE, h1, h2]
  all_goals have hb := badR_false (chk_bad h1)
  · show IntKind.u64.wrap (r.nth 1).int ≠ 0
    rw [wrap_u64 (by omega) (by omega)]; omega
  · simp at h2
    have hp := placeI_lt (no := no.int) hb.1 hb.2.1 (by omega) (by omega)
    show 0 ≤ placeI (r.nth 1).int no.int ∧ placeI (r.nth 1).int no.int < ((64 : Nat) : Int)
    omega
  · have e : getE r no.int = 0 := by simp [getE, h1, h2]
    simp only [getD', e]
    exact Same.rfl
  · show 0 = getE r no.int
    simp [getE, h1, h2]

def lostE (r : D) (no : Int) : Int := if chk r ≠ 0 then chk r else if ltB no 1 || ltB (r.nth 3).int no then 2 else 0
def lostI (r : D) (no : Int) : Int := if lostE r no ≠ 0 then 0 else stI r no - no
def sLost : Sum := ⟨[ringS, u64], fun _ => none, fun
  | [r, no] => .tup [.dat u64 (.I (lostI r no.int)), .dat i64 (.I (lostE r no.int))]
  | _ => .und⟩
def cLost : Ctx := ⟨tab, [], [(63, sCheck)], [], keep, []⟩
end Go.Proofs.Ytpfpgjkbnjnjnaa.Rg
