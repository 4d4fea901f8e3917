/- Accounts of rules: one rule. Accounts of rules: what is right of one rule's functions. -/
import Derived.Test.YtpfpgjkbnjnjnaaWAa
import Derived.Test.YtpfpgjkbnjnjnaaProg
import Derived.Test.YtpfpgjkbnjnjnaaWKa
import Derived.KernelRfl
namespace Go.Proofs.Ytpfpgjkbnjnjnaa.Ru
open Go Go.Vm
set_option linter.unusedSimpArgs false

abbrev u64 : Sh := .int .u64
abbrev i64 : Sh := .int .i64
abbrev ruleS : Sh := .struct [i64, u64, u64, .bool, i64, i64, i64]
abbrev eventS : Sh := .struct [u64, i64, i64]
def tab : List (Nat × Sh) := [(78, ruleS), (39, eventS), (22, u64), (3, i64), (2, i64), (4, .bool), (35, i64), (51, .slice ruleS)]

def belowB (a b : Int) : Bool := bitsOp .andNot .u64 a b == 0
def sBelow : Sum := ⟨[u64, u64], fun _ => none, fun
  | [a, b] => .dat .bool (.B (belowB a.int b.int))
  | _ => .und⟩
def badOwner (r : D) : Bool := ltB (r.nth 0).int 1 || ltB 6 (r.nth 0).int || ltB (r.nth 4).int 0 || ltB 25 (r.nth 4).int || ((r.nth 3).bool && (r.nth 4).int != 0)
def partF (r : D) (n : Int) : Int :=
  if n = 0 then (if badOwner r = true then 2 else 0)
  else if n = 1 then (if belowB (r.nth 2).int (r.nth 1).int = true then 0 else 13)
  else if n = 2 then (if (r.nth 5).int > (r.nth 6).int then 9 else 0) else 0
def sPart : Sum := ⟨[ruleS, i64], fun _ => none, fun
  | [r, n] => .dat i64 (.I (partF r n.int))
  | _ => .und⟩
def checkF (r : D) : Int := if partF r 0 ≠ 0 then partF r 0 else if partF r 1 ≠ 0 then partF r 1 else partF r 2
def sCheck : Sum := ⟨[ruleS], fun _ => none, fun
  | [r] => .dat i64 (.I (checkF r))
  | _ => .und⟩

def c0 : Ctx := ⟨tab, [], [], [], [], []⟩
theorem below_fun : FunOK c0 20 Try.f53 sBelow := fun _ _ _ _ _ => Bears.rfl
def cPart : Ctx := ⟨tab, [], [(53, sBelow)], [], [], []⟩
set_option maxRecDepth 10000
theorem part_fun : FunOK cPart 40 Try.f94 sPart := fun r _ n _ _ => by
  refine ⟨fun h1 => ⟨fun h2 => ?_, fun h2 => ?_⟩, fun h1 => ⟨fun h2 => ⟨fun h3 => ?_, fun h3 => ?_⟩, fun h2 => ⟨fun h3 => ⟨fun h4 => ?_, fun h4 => ?_⟩, fun h3 => ?_⟩⟩⟩
  all_goals refine Bears.int (k := .i64) ?_
  all_goals simp at h1
  · replace h2 : badOwner r = true := h2
    simp [partF, h1, h2]
  · replace h2 : badOwner r = false := h2
    simp [partF, h1, h2]
  all_goals simp at h2 h3
  all_goals try simp at h4
  all_goals simp [partF, h1, h2, h3]
  all_goals simp [h4]

def cCheck : Ctx := ⟨tab, [], [(94, sPart)], [], [], []⟩
theorem check_fun : FunOK cCheck 40 Try.f76 sCheck := fun r _ _ => by
  refine ⟨{ n : Nat // n ≤ 3 ∧ ∀ m : Nat, m < n → partF r m = 0 }, 1, fun n => ([(1, .ptr 0 ruleS [] ruleS), (5, .dat i64 (.I n.1))], [(0, .box ruleS (.dat ruleS r))]), fun n => 3 - n.1, ⟨0, by omega, fun m h => by omega⟩, ⟨[], rfl, ⟨rfl, rfl, trivial⟩, ⟨rfl, trivial⟩⟩, fun x => ?_⟩
  obtain ⟨n, hn, hp⟩ := x
  have p0 := hp 0; have p1 := hp 1; have p2 := hp 2
  refine ⟨fun h1 => ⟨fun h2 => ?_, fun h2 => ?_⟩, fun h1 => ?_⟩
  · refine Bears.int (k := .i64) ?_
    simp at h1 h2
    simp only [D.gets_nil, D.int_I]
    obtain rfl | rfl | rfl : n = 0 ∨ n = 1 ∨ n = 2 := by omega
    all_goals simp_all [checkF]
  · simp at h1 h2
    refine ⟨⟨n + 1, by omega, fun m hm => ?_⟩, ⟨[], rfl, ⟨rfl, congrArg some (succ_i64 (n := n) (by omega)), trivial⟩, ⟨rfl, trivial⟩⟩, ?_⟩
    · rcases Nat.lt_or_eq_of_le (Nat.le_of_lt_succ hm) with h | rfl
      · exact hp m h
      · exact h2
    · show 3 - (n + 1) < 3 - n
      omega
  · refine Bears.int (k := .i64) ?_
    simp at h1
    obtain rfl : n = 3 := by omega
    simp_all [checkF]


def eventF (e : D) : Int := if ltB (e.nth 1).int 0 || ltB 25 (e.nth 1).int then 11 else 0
def sEvent : Sum := ⟨[eventS], fun _ => none, fun
  | [e] => .dat i64 (.I (eventF e))
  | _ => .und⟩
theorem event_fun : FunOK c0 20 Try.f27 sEvent := fun e _ _ => by
  refine ⟨fun h1 => ?_, fun h1 => ?_⟩
  all_goals refine Bears.int (k := .i64) ?_
  all_goals simp at h1; simp [eventF]; omega
def cRef : Ctx := ⟨tab, [], [], [], [], []⟩
def fitsB (r e : D) : Bool := ((r.nth 3).bool || (r.nth 4).int == (e.nth 1).int) && leB (r.nth 5).int (e.nth 2).int && leB (e.nth 2).int (r.nth 6).int
def sfits : Sum := ⟨[ruleS, eventS], fun _ => none, fun
  | [r, e] => .dat .bool (.B (fitsB r e))
  | _ => .und⟩
theorem fits_fun : FunOK c0 20 Try.f77 sfits := fun _ _ _ _ _ => Bears.rfl
def bothF (r e : D) : Int := if checkF r ≠ 0 then checkF r else eventF e
def sBoth : Sum := ⟨[ruleS, eventS], fun _ => none, fun
  | [r, e] => .dat i64 (.I (bothF r e))
  | _ => .und⟩
def cBoth : Ctx := ⟨tab, [], [], [], [], []⟩
def sFits : Sum := ⟨[ruleS, eventS], fun _ => none, fun
  | [r, e] => .tup [.dat .bool (.B (bothF r e == 0 && fitsB r e)), .dat i64 (.I (bothF r e))]
  | _ => .und⟩
def cFits : Ctx := ⟨tab, [], [(76, sCheck), (27, sEvent), (77, sfits)], [], [], []⟩
theorem Fits_fun : FunOK cFits 30 Try.f52 sFits := fun r _ e _ _ => by
  refine ⟨fun h1 => ⟨Bears.bool ?_, Bears.int ?_, trivial⟩, fun h1 => ⟨Bears.bool ?_, Bears.int ?_, trivial⟩⟩
  all_goals simp at h1; simp [bothF, h1]
def cFitsR : Ctx := ⟨tab, [], [], [], [], []⟩
def sReaches : Sum := ⟨[ruleS, u64], fun _ => none, fun
  | [r, l] => .tup [.dat .bool (.B (checkF r == 0 && belowB l.int (r.nth 1).int)), .dat i64 (.I (checkF r))]
  | _ => .und⟩
def cReaches : Ctx := ⟨tab, [], [(76, sCheck), (53, sBelow)], [], [], []⟩
def cReachesR : Ctx := ⟨tab, [], [], [], [], []⟩
def relErr (r e : D) : Int := if bothF r e ≠ 0 then bothF r e else if belowB (e.nth 0).int (r.nth 1).int = false then 7 else if fitsB r e = false then 11 else 0
def evD (l k v : Int) : D := .L [.I l, .I k, .I v]
def relF (r e : D) : D := if relErr r e = 0 then evD (r.nth 2).int (e.nth 1).int (e.nth 2).int else evD 0 0 0
def sRelease : Sum := ⟨[ruleS, eventS], fun _ => none, fun
  | [r, e] => .tup [.dat eventS (relF r e), .dat i64 (.I (relErr r e))]
  | _ => .und⟩
def cRelease : Ctx := ⟨tab, [], [(52, sFits), (53, sBelow)], [], [], []⟩
theorem Release_fun : FunOK cRelease 40 Try.f34 sRelease := fun r _ e _ _ => by
  refine ⟨fun h1 => ⟨Bears.same ⟨?_, ?_, ?_, trivial⟩, Bears.int ?_, trivial⟩, fun h1 => ⟨fun h2 => ⟨Bears.same ⟨?_, ?_, ?_, trivial⟩, Bears.int ?_, trivial⟩, fun h2 => ⟨fun h3 => ⟨Bears.same ⟨?_, ?_, ?_, trivial⟩, Bears.int ?_, trivial⟩, fun h3 => ⟨Bears.same ⟨?_, ?_, ?_, trivial⟩, Bears.int ?_, trivial⟩⟩⟩⟩
  all_goals simp at h1
  all_goals try simp at h2
  all_goals try simp [h1] at h3
  all_goals simp_all [relF, relErr, evD, D0, D0s, D.puts_fld, ofNth_getD]
def cReleaseR : Ctx := ⟨tab, [], [], [], [], []⟩
/-! ### Lists -/
def firstErr (f : D → Int) : List D → Int
  | [] => 0
  | x :: xs => if f x ≠ 0 then f x else firstErr f xs
theorem firstErr_at {f : D → Int} : ∀ {l : List D} {n : Nat}, n < l.length → (∀ m, m < n → f (l.getD m .Z) = 0) → f (l.getD n .Z) ≠ 0 → firstErr f l = f (l.getD n .Z)
  | [], _, h, _, _ => by simp at h
  | x :: xs, 0, _, _, h => by
    have h' : f x ≠ 0 := h
    simp [firstErr, h']
  | x :: xs, n + 1, hn, hp, h => by
    have h0 : f x = 0 := hp 0 (by omega)
    have := firstErr_at (f := f) (l := xs) (n := n) (by simpa using hn) (fun m hm => hp (m + 1) (by omega)) h
    simp only [firstErr, h0, ne_eq, not_true_eq_false, if_false, this]
    rfl
theorem firstErr_none {f : D → Int} : ∀ {l : List D}, (∀ m, m < l.length → f (l.getD m .Z) = 0) → firstErr f l = 0
  | [], _ => rfl
  | x :: xs, h => by
    have h0 : f x = 0 := h 0 (by simp)
    simp only [firstErr, h0, ne_eq, not_true_eq_false, if_false]
    exact firstErr_none fun m hm => h (m + 1) (by simpa using hm)
theorem firstErr_zero {f : D → Int} : ∀ {l : List D}, firstErr f l = 0 → ∀ m, m < l.length → f (l.getD m .Z) = 0
  | [], _, m, hm => by simp at hm
  | x :: xs, h, m, hm => by
    simp only [firstErr] at h
    split at h
    · rename_i h1; exact absurd h h1
    · rename_i h1
      cases m with
      | zero => simpa using h1
      | succ m => exact firstErr_zero h m (by simpa using hm)

def listF (l : D) : Int := if 8 < l.list.length then 6 else firstErr checkF l.list
def sList : Sum := ⟨[.slice ruleS], fun _ => none, fun
  | [l] => .dat i64 (.I (listF l))
  | _ => .und⟩
def cList : Ctx := ⟨tab, [], [(76, sCheck)], [], [], []⟩
def cListR : Ctx := ⟨tab, [], [], [], [], []⟩
def mayF (l : D) (number tenant clearance : Int) : Int :=
  if number < 0 ∨ (l.list.length : Int) ≤ number ∨ ((l.list[number.toNat]?.getD .Z).nth 0).int ≠ tenant then 20
  else if belowB ((l.list[number.toNat]?.getD .Z).nth 1).int clearance = false then 13 else 0
def smay : Sum := ⟨[.slice ruleS, i64, i64, u64], fun _ => none, fun
  | [l, n, t, c] => .dat i64 (.I (mayF l n.int t.int c.int))
  | _ => .und⟩
def MayF (l : D) (number tenant clearance : Int) : Int := if listF l ≠ 0 then listF l else mayF l number tenant clearance
def sMay : Sum := ⟨[.slice ruleS, i64, i64, u64], fun _ => none, fun
  | [l, n, t, c] => .dat i64 (.I (MayF l n.int t.int c.int))
  | _ => .und⟩
def cMay : Ctx := ⟨tab, [], [], [], [], []⟩
def exampleD : D := .L [.I 2, .I 3, .I 0, .B false, .I 0, .I 5, .I 9]
def sExample : Sum := ⟨[], fun _ => none, fun _ => .dat ruleS exampleD⟩
def sOne : Sum := ⟨[], fun _ => none, fun _ => .dat (.slice ruleS) (.L [exampleD])⟩
def cOne : Ctx := ⟨tab, [], [], [], [], []⟩
def sTrue : Sum := ⟨[], fun _ => none, fun _ => .dat .bool (.B true)⟩
def cAwake : Ctx := ⟨tab, [], [(34, sRelease), (52, sFits)], [], [], []⟩
def cRuleOne : Ctx := ⟨tab, [], [(52, sFits), (34, sRelease), (76, sCheck)], [], [], []⟩
def sRuleOne : Sum := ⟨[ruleS, eventS], fun _ => none, fun _ => .dat .bool (.B true)⟩
end Go.Proofs.Ytpfpgjkbnjnjnaa.Ru

namespace Go.Proofs.Ytpfpgjkbnjnjnaa.Ru
open Go Go.Vm
set_option linter.unusedSimpArgs false
set_option linter.unusedVariables false
set_option maxRecDepth 10000
theorem mixed : Try.prog.follows .mixedOrders = true := by kernel_rfl
theorem tabOK : tabB Try.prog tab = true := by kernel_rfl
theorem ctxOK {l : List (Nat × Sum)} (h : SumsOK Try.prog l) : CtxOK Try.prog ⟨tab, [], l, [], [], []⟩ := CtxOK.of tabOK rfl h FunsOK.nil

theorem below_ok : SumOK Try.prog 53 sBelow := sumOK_of_vc (ctxOK .nil) mixed Try.func53 rfl (by decide) below_fun
theorem part_ok : SumOK Try.prog 94 sPart := sumOK_of_vc (ctxOK (.cons below_ok .nil)) mixed Try.func94 rfl (by decide) part_fun
theorem check_ok : SumOK Try.prog 76 sCheck := sumOK_of_vc (ctxOK (.cons part_ok .nil)) mixed Try.func76 rfl (by decide) check_fun
theorem event_ok : SumOK Try.prog 27 sEvent := sumOK_of_vc (ctxOK .nil) mixed Try.func27 rfl (by decide) event_fun
theorem fits_ok : SumOK Try.prog 77 sfits := sumOK_of_vc (ctxOK .nil) mixed Try.func77 rfl (by decide) fits_fun
theorem Fits_ok : SumOK Try.prog 52 sFits := sumOK_of_vc (ctxOK (.cons check_ok (.cons event_ok (.cons fits_ok .nil)))) mixed Try.func52 rfl (by decide) Fits_fun
theorem Release_ok : SumOK Try.prog 34 sRelease := sumOK_of_vc (ctxOK (.cons Fits_ok (.cons below_ok .nil))) mixed Try.func34 rfl (by decide) Release_fun
end Go.Proofs.Ytpfpgjkbnjnjnaa.Ru
