/- Accounts of rules: one rule. -/
import Derived.Test.YtjjpeeppfnhiiaaWAa
import Derived.Test.YtjjpeeppfnhiiaaProg
namespace Go.Proofs.Ytjjpeeppfnhiiaa
open Go Go.Vm
set_option linter.unusedSimpArgs false

abbrev u64 : Sh := .int .u64
abbrev i64 : Sh := .int .i64
abbrev ruleS : Sh := .struct [i64, u64, u64, .bool, i64, i64, i64]
abbrev eventS : Sh := .struct [u64, i64, i64]
def tab : List (Nat × Sh) := [(24, ruleS), (26, eventS), (22, u64), (3, i64), (2, i64), (4, .bool), (27, i64), (36, .slice ruleS)]

def belowB (a b : Int) : Bool := bitsOp .andNot .u64 a b == 0
def sBelow : Sum := ⟨[u64, u64], fun _ => none, fun
  | [a, b] => .dat .bool (.B (belowB a.int b.int))
  | _ => .und⟩
def badOwner (r : D) : Bool := ltB (r.nth 0).int 1 || ltB 6 (r.nth 0).int || ltB (r.nth 4).int 0 || ltB 25 (r.nth 4).int || ((r.nth 3).bool && (r.nth 4).int != 0)
def partF (r : D) (n : Int) : Int :=
  if n = 0 then (if badOwner r = true then 2 else 0)
  else if n = 1 then (if belowB (r.nth 2).int (r.nth 1).int = true then 0 else 13)
  else if n = 2 then (if (r.nth 5).int > (r.nth 6).int then 9 else 0) else 0
def sPart : Sum := ⟨[ruleS, i64], fun _ => none, fun
  | [r, n] => .dat i64 (.I (partF r n.int))
  | _ => .und⟩
def checkF (r : D) : Int := if partF r 0 ≠ 0 then partF r 0 else if partF r 1 ≠ 0 then partF r 1 else partF r 2
def sCheck : Sum := ⟨[ruleS], fun _ => none, fun
  | [r] => .dat i64 (.I (checkF r))
  | _ => .und⟩

def c0 : Ctx := ⟨tab, [], [], [], [], []⟩
theorem below_fun : FunOK c0 20 Try.f40 sBelow := fun _ _ _ _ _ => Bears.rfl
theorem belowR_fun : FunOK c0 20 Try.f41 sBelow := fun _ _ _ _ _ => Bears.rfl

def cPart : Ctx := ⟨tab, [], [(40, sBelow)], [], [], []⟩
set_option maxRecDepth 10000
theorem part_fun : FunOK cPart 40 Try.f42 sPart := fun r _ n _ _ => by
  refine ⟨fun h1 => ⟨fun h2 => ?_, fun h2 => ?_⟩, fun h1 => ⟨fun h2 => ⟨fun h3 => ?_, fun h3 => ?_⟩, fun h2 => ⟨fun h3 => ⟨fun h4 => ?_, fun h4 => ?_⟩, fun h3 => ?_⟩⟩⟩
  all_goals refine Bears.int (k := .i64) ?_
  all_goals simp at h1
  · replace h2 : badOwner r = true := h2
    simp [partF, h1, h2]
  · replace h2 : badOwner r = false := h2
    simp [partF, h1, h2]
  all_goals simp at h2 h3
  all_goals try simp at h4
  all_goals simp [partF, h1, h2, h3]
  all_goals simp [h4]

def cCheck : Ctx := ⟨tab, [], [(42, sPart)], [], [], []⟩
theorem check_fun : FunOK cCheck 40 Try.f14 sCheck := fun r _ _ => by
  refine ⟨{ n : Nat // n ≤ 3 ∧ ∀ m : Nat, m < n → partF r m = 0 }, 1, fun n => ([(1, .ptr 0 ruleS [] ruleS), (5, .dat i64 (.I n.1))], [(0, .box ruleS (.dat ruleS r))]), fun n => 3 - n.1, ⟨0, by omega, fun m h => by omega⟩, ⟨[], rfl, ⟨rfl, rfl, trivial⟩, ⟨rfl, trivial⟩⟩, fun x => ?_⟩
  obtain ⟨n, hn, hp⟩ := x
  have p0 := hp 0; have p1 := hp 1; have p2 := hp 2
  refine ⟨fun h1 => ⟨fun h2 => ?_, fun h2 => ?_⟩, fun h1 => ?_⟩
  · refine Bears.int (k := .i64) ?_
    simp at h1 h2
    simp only [D.gets_nil, D.int_I]
    obtain rfl | rfl | rfl : n = 0 ∨ n = 1 ∨ n = 2 := by omega
    all_goals simp_all [checkF]
  · simp at h1 h2
    refine ⟨⟨n + 1, by omega, fun m hm => ?_⟩, ⟨[], rfl, ⟨rfl, congrArg some (succ_i64 (n := n) (by omega)), trivial⟩, ⟨rfl, trivial⟩⟩, ?_⟩
    · rcases Nat.lt_or_eq_of_le (Nat.le_of_lt_succ hm) with h | rfl
      · exact hp m h
      · exact h2
    · show 3 - (n + 1) < 3 - n
      omega
  · refine Bears.int (k := .i64) ?_
    simp at h1
    obtain rfl : n = 3 := by omega
    simp_all [checkF]


def eventF (e : D) : Int := if ltB (e.nth 1).int 0 || ltB 25 (e.nth 1).int then 11 else 0
def sEvent : Sum := ⟨[eventS], fun _ => none, fun
  | [e] => .dat i64 (.I (eventF e))
  | _ => .und⟩
theorem event_fun : FunOK c0 20 Try.f36 sEvent := fun e _ _ => by
  refine ⟨fun h1 => ?_, fun h1 => ?_⟩
  all_goals refine Bears.int (k := .i64) ?_
  all_goals simp at h1; simp [eventF]; omega
theorem eventR_fun : FunOK c0 20 Try.f51 sEvent := fun e _ _ => by
  refine ⟨fun h1 => ?_, fun h1 => ?_⟩
  all_goals refine Bears.int (k := .i64) ?_
  all_goals simp at h1; simp [eventF]; omega

def cRef : Ctx := ⟨tab, [], [(41, sBelow)], [], [], []⟩
theorem checkR_fun : FunOK cRef 40 Try.f15 sCheck := fun r _ _ => by
  refine ⟨fun h1 => ?_, fun h1 => ⟨fun h2 => ?_, fun h2 => ⟨fun h3 => ?_, fun h3 => ?_⟩⟩⟩
  all_goals refine Bears.int (k := .i64) ?_
  · replace h1 : badOwner r = true := h1
    simp [checkF, partF, h1]
  all_goals replace h1 : badOwner r = false := h1
  all_goals simp at h2
  · simp [checkF, partF, h1, h2]
  all_goals simp at h3
  all_goals simp [checkF, partF, h1, h2, h3]

def fitsB (r e : D) : Bool := ((r.nth 3).bool || (r.nth 4).int == (e.nth 1).int) && leB (r.nth 5).int (e.nth 2).int && leB (e.nth 2).int (r.nth 6).int
def sfits : Sum := ⟨[ruleS, eventS], fun _ => none, fun
  | [r, e] => .dat .bool (.B (fitsB r e))
  | _ => .und⟩
theorem fits_fun : FunOK c0 20 Try.f37 sfits := fun _ _ _ _ _ => Bears.rfl
theorem fitsR_fun : FunOK c0 20 Try.f39 sfits := fun _ _ _ _ _ => Bears.rfl

def bothF (r e : D) : Int := if checkF r ≠ 0 then checkF r else eventF e
def sBoth : Sum := ⟨[ruleS, eventS], fun _ => none, fun
  | [r, e] => .dat i64 (.I (bothF r e))
  | _ => .und⟩
def cBoth : Ctx := ⟨tab, [], [(15, sCheck), (51, sEvent)], [], [], []⟩
theorem both_fun : FunOK cBoth 20 Try.f38 sBoth := fun r _ e _ _ => by
  refine ⟨fun h1 => ?_, fun h1 => ?_⟩
  all_goals refine Bears.int (k := .i64) ?_
  all_goals simp at h1; simp [bothF, h1]

def sFits : Sum := ⟨[ruleS, eventS], fun _ => none, fun
  | [r, e] => .tup [.dat .bool (.B (bothF r e == 0 && fitsB r e)), .dat i64 (.I (bothF r e))]
  | _ => .und⟩
def cFits : Ctx := ⟨tab, [], [(14, sCheck), (36, sEvent), (37, sfits)], [], [], []⟩
theorem Fits_fun : FunOK cFits 30 Try.f8 sFits := fun r _ e _ _ => by
  refine ⟨fun h1 => ⟨Bears.bool ?_, Bears.int ?_, trivial⟩, fun h1 => ⟨Bears.bool ?_, Bears.int ?_, trivial⟩⟩
  all_goals simp at h1; simp [bothF, h1]
def cFitsR : Ctx := ⟨tab, [], [(38, sBoth), (39, sfits)], [], [], []⟩
theorem FitsR_fun : FunOK cFitsR 30 Try.f9 sFits := fun r _ e _ _ => by
  refine ⟨fun h1 => ⟨Bears.bool ?_, Bears.int ?_, trivial⟩, fun h1 => ⟨Bears.bool ?_, Bears.int ?_, trivial⟩⟩
  all_goals simp at h1; simp [h1]

def sReaches : Sum := ⟨[ruleS, u64], fun _ => none, fun
  | [r, l] => .tup [.dat .bool (.B (checkF r == 0 && belowB l.int (r.nth 1).int)), .dat i64 (.I (checkF r))]
  | _ => .und⟩
def cReaches : Ctx := ⟨tab, [], [(14, sCheck), (40, sBelow)], [], [], []⟩
theorem Reaches_fun : FunOK cReaches 30 Try.f10 sReaches := fun _ _ _ _ _ => ⟨Bears.rfl, Bears.rfl, trivial⟩
def cReachesR : Ctx := ⟨tab, [], [(15, sCheck), (41, sBelow)], [], [], []⟩
theorem ReachesR_fun : FunOK cReachesR 30 Try.f11 sReaches := fun r _ l _ _ => by
  refine ⟨fun h1 => ⟨Bears.bool ?_, Bears.int ?_, trivial⟩, fun h1 => ⟨Bears.bool ?_, Bears.int ?_, trivial⟩⟩
  all_goals simp at h1; simp [h1]

def relErr (r e : D) : Int := if bothF r e ≠ 0 then bothF r e else if belowB (e.nth 0).int (r.nth 1).int = false then 7 else if fitsB r e = false then 11 else 0
def evD (l k v : Int) : D := .L [.I l, .I k, .I v]
def relF (r e : D) : D := if relErr r e = 0 then evD (r.nth 2).int (e.nth 1).int (e.nth 2).int else evD 0 0 0
def sRelease : Sum := ⟨[ruleS, eventS], fun _ => none, fun
  | [r, e] => .tup [.dat eventS (relF r e), .dat i64 (.I (relErr r e))]
  | _ => .und⟩
def cRelease : Ctx := ⟨tab, [], [(8, sFits), (40, sBelow)], [], [], []⟩
theorem Release_fun : FunOK cRelease 40 Try.f12 sRelease := fun r _ e _ _ => by
  refine ⟨fun h1 => ⟨Bears.same ⟨?_, ?_, ?_, trivial⟩, Bears.int ?_, trivial⟩, fun h1 => ⟨fun h2 => ⟨Bears.same ⟨?_, ?_, ?_, trivial⟩, Bears.int ?_, trivial⟩, fun h2 => ⟨fun h3 => ⟨Bears.same ⟨?_, ?_, ?_, trivial⟩, Bears.int ?_, trivial⟩, fun h3 => ⟨Bears.same ⟨?_, ?_, ?_, trivial⟩, Bears.int ?_, trivial⟩⟩⟩⟩
  all_goals simp at h1
  all_goals try simp at h2
  all_goals try simp [h1] at h3
  all_goals simp_all [relF, relErr, evD, D0, D0s, D.puts_fld, ofNth_getD]
def cReleaseR : Ctx := ⟨tab, [], [(38, sBoth), (39, sfits), (41, sBelow)], [], [], []⟩
theorem ReleaseR_fun : FunOK cReleaseR 40 Try.f13 sRelease := fun r _ e _ _ => by
  refine ⟨fun h1 => ⟨Bears.same ⟨?_, ?_, ?_, trivial⟩, Bears.int ?_, trivial⟩, fun h1 => ⟨fun h2 => ⟨Bears.same ⟨?_, ?_, ?_, trivial⟩, Bears.int ?_, trivial⟩, fun h2 => ⟨fun h3 => ⟨Bears.same ⟨?_, ?_, ?_, trivial⟩, Bears.int ?_, trivial⟩, fun h3 => ⟨Bears.same ⟨?_, ?_, ?_, trivial⟩, Bears.int ?_, trivial⟩⟩⟩⟩
  all_goals simp at h1
  all_goals try simp at h2
  all_goals try simp [h1] at h3
  all_goals simp_all [relF, relErr, evD, D0, D0s, D.puts_fld, ofNth_getD]

/-! ### Lists -/
def firstErr (f : D → Int) : List D → Int
  | [] => 0
  | x :: xs => if f x ≠ 0 then f x else firstErr f xs
theorem firstErr_at {f : D → Int} : ∀ {l : List D} {n : Nat}, n < l.length → (∀ m, m < n → f (l.getD m .Z) = 0) → f (l.getD n .Z) ≠ 0 → firstErr f l = f (l.getD n .Z)
  | [], _, h, _, _ => by simp at h
  | x :: xs, 0, _, _, h => by
    have h' : f x ≠ 0 := h
    simp [firstErr, h']
  | x :: xs, n + 1, hn, hp, h => by
    have h0 : f x = 0 := hp 0 (by omega)
    have := firstErr_at (f := f) (l := xs) (n := n) (by simpa using hn) (fun m hm => hp (m + 1) (by omega)) h
    simp only [firstErr, h0, ne_eq, not_true_eq_false, if_false, this]
    rfl
theorem firstErr_none {f : D → Int} : ∀ {l : List D}, (∀ m, m < l.length → f (l.getD m .Z) = 0) → firstErr f l = 0
  | [], _ => rfl
  | x :: xs, h => by
    have h0 : f x = 0 := h 0 (by simp)
    simp only [firstErr, h0, ne_eq, not_true_eq_false, if_false]
    exact firstErr_none fun m hm => h (m + 1) (by simpa using hm)
theorem firstErr_zero {f : D → Int} : ∀ {l : List D}, firstErr f l = 0 → ∀ m, m < l.length → f (l.getD m .Z) = 0
  | [], _, m, hm => by simp at hm
  | x :: xs, h, m, hm => by
    simp only [firstErr] at h
    split at h
    · rename_i h1; exact absurd h h1
    · rename_i h1
      cases m with
      | zero => simpa using h1
      | succ m => exact firstErr_zero h m (by simpa using hm)

def listF (l : D) : Int := if 8 < l.list.length then 6 else firstErr checkF l.list
def sList : Sum := ⟨[.slice ruleS], fun _ => none, fun
  | [l] => .dat i64 (.I (listF l))
  | _ => .und⟩
def cList : Ctx := ⟨tab, [], [(14, sCheck)], [], [], []⟩
theorem List_fun : FunOK cList 40 Try.f28 sList := fun l _ _ => by
  refine ⟨fun h1 => Bears.int ?_, fun h0 => ?_⟩
  · simp at h1; simp [listF]; omega
  simp at h0
  refine ⟨{ n : Nat // n ≤ l.list.length ∧ ∀ m : Nat, m < n → checkF (l.list.getD m .Z) = 0 }, 0, fun n => ([(9, .dat (.slice ruleS) l), (10, .dat i64 (.I l.list.length)), (11, .dat i64 (.I n.1))], []), fun n => l.list.length - n.1, ⟨0, by omega, fun m h => by omega⟩, ⟨[], rfl, ⟨rfl, rfl, rfl, trivial⟩, trivial⟩, fun x => ?_⟩
  obtain ⟨n, hn, hp⟩ := x
  refine ⟨fun h1 => ⟨⟨?_, ?_⟩, fun h2 => ?_, fun h2 => ?_⟩, fun h1 => ?_⟩
  all_goals simp at h1
  · simp
  · simp; omega
  · refine Bears.int (k := .i64) ?_
    simp at h2
    simp only [D.int_I, listF]
    rw [if_neg (by omega), firstErr_at (n := n) (by omega) hp (by simpa using h2)]
    simp
  · simp at h2
    refine ⟨⟨n + 1, by omega, fun m hm => ?_⟩, ⟨[], rfl, ⟨rfl, rfl, congrArg some (succ_i64 (n := n) (by omega)), trivial⟩, trivial⟩, ?_⟩
    · rcases Nat.lt_or_eq_of_le (Nat.le_of_lt_succ hm) with h | rfl
      · exact hp m h
      · simpa using h2
    · show l.list.length - (n + 1) < l.list.length - n
      omega
  · refine Bears.int (k := .i64) ?_
    simp only [D.int_I, listF]
    rw [if_neg (by omega), firstErr_none fun m hm => hp m (by omega)]
def cListR : Ctx := ⟨tab, [], [(15, sCheck)], [], [], []⟩
theorem ListR_fun : FunOK cListR 40 Try.f29 sList := fun l _ _ => by
  refine ⟨fun h1 => Bears.int ?_, fun h0 => ?_⟩
  · simp at h1; simp [listF]; omega
  simp at h0
  refine ⟨{ n : Nat // n ≤ l.list.length ∧ ∀ m : Nat, m < n → checkF (l.list.getD m .Z) = 0 }, 0, fun n => ([(0, .dat (.slice ruleS) l), (3, .dat i64 (.I n.1))], []), fun n => l.list.length - n.1, ⟨0, by omega, fun m h => by omega⟩, ⟨[], rfl, ⟨rfl, rfl, trivial⟩, trivial⟩, fun x => ?_⟩
  obtain ⟨n, hn, hp⟩ := x
  refine ⟨fun h1 => ⟨⟨?_, ?_⟩, fun h2 => ?_, fun h2 => ?_⟩, fun h1 => ?_⟩
  all_goals simp at h1
  · simp
  · simp; omega
  · refine Bears.int (k := .i64) ?_
    simp at h2
    simp only [D.int_I, listF]
    rw [if_neg (by omega), firstErr_at (n := n) (by omega) hp (by simpa using h2)]
    simp
  · simp at h2
    refine ⟨⟨n + 1, by omega, fun m hm => ?_⟩, ⟨[], rfl, ⟨rfl, congrArg some (succ_i64 (n := n) (by omega)), trivial⟩, trivial⟩, ?_⟩
    · rcases Nat.lt_or_eq_of_le (Nat.le_of_lt_succ hm) with h | rfl
      · exact hp m h
      · simpa using h2
    · show l.list.length - (n + 1) < l.list.length - n
      omega
  · refine Bears.int (k := .i64) ?_
    simp only [D.int_I, listF]
    rw [if_neg (by omega), firstErr_none fun m hm => hp m (by omega)]

def mayF (l : D) (number tenant clearance : Int) : Int :=
  if number < 0 ∨ (l.list.length : Int) ≤ number ∨ ((l.list[number.toNat]?.getD .Z).nth 0).int ≠ tenant then 20
  else if belowB ((l.list[number.toNat]?.getD .Z).nth 1).int clearance = false then 13 else 0
def smay : Sum := ⟨[.slice ruleS, i64, i64, u64], fun _ => none, fun
  | [l, n, t, c] => .dat i64 (.I (mayF l n.int t.int c.int))
  | _ => .und⟩
theorem may_fun : FunOK cPart 40 Try.f47 smay := fun l _ n _ t _ c _ _ => by
  refine ⟨fun hk => ?_, fun h1 => Bears.int ?_, fun h1 => ⟨⟨?_, ?_⟩, fun h2 => Bears.int ?_, fun h2 => Bears.int ?_⟩⟩
  · simp [KeyCond] at hk
    show 0 ≤ n.int ∧ n.int < (l.list.length : Int)
    omega
  all_goals simp at h1
  · simp [mayF]; intro h2 h3 h4; omega
  · show 0 ≤ n.int
    omega
  · show n.int < (l.list.length : Int)
    omega
  all_goals simp at h2
  all_goals obtain ⟨⟨h3, h4⟩, h5⟩ := h1
  · simp [mayF, h2, h5]; omega
  · simp [mayF, h2, h5]; omega
def MayF (l : D) (number tenant clearance : Int) : Int := if listF l ≠ 0 then listF l else mayF l number tenant clearance
def sMay : Sum := ⟨[.slice ruleS, i64, i64, u64], fun _ => none, fun
  | [l, n, t, c] => .dat i64 (.I (MayF l n.int t.int c.int))
  | _ => .und⟩
def cMay : Ctx := ⟨tab, [], [(28, sList), (47, smay)], [], [], []⟩
theorem May_fun : FunOK cMay 40 Try.f21 sMay := fun l _ n _ t _ c _ _ => by
  refine ⟨fun h1 => Bears.int ?_, fun h1 => Bears.int ?_⟩
  all_goals simp at h1; simp [MayF, h1]

def exampleD : D := .L [.I 2, .I 3, .I 0, .B false, .I 0, .I 5, .I 9]
def sExample : Sum := ⟨[], fun _ => none, fun _ => .dat ruleS exampleD⟩
theorem example_fun : FunOK c0 40 Try.f34 sExample := fun _ => Bears.same ⟨rfl, rfl, rfl, rfl, rfl, rfl, rfl, trivial⟩
def sOne : Sum := ⟨[], fun _ => none, fun _ => .dat (.slice ruleS) (.L [exampleD])⟩
def cOne : Ctx := ⟨tab, [], [(34, sExample)], [], [], []⟩
theorem one_fun : FunOK cOne 40 Try.f35 sOne := fun _ => Bears.rfl

def sTrue : Sum := ⟨[], fun _ => none, fun _ => .dat .bool (.B true)⟩
def cAwake : Ctx := ⟨tab, [], [(34, sExample), (35, sOne), (12, sRelease), (8, sFits), (21, sMay)], [], [], []⟩
theorem awake_fun : FunOK cAwake 40 Try.f16 sTrue := fun _ => Bears.bool rfl

def cRuleOne : Ctx := ⟨tab, [], [(8, sFits), (9, sFits), (10, sReaches), (11, sReaches), (12, sRelease), (13, sRelease),
  (14, sCheck), (15, sCheck), (16, sTrue)], [], [], []⟩
def sRuleOne : Sum := ⟨[ruleS, eventS], fun _ => none, fun _ => .dat .bool (.B true)⟩
end Go.Proofs.Ytjjpeeppfnhiiaa
