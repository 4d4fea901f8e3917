/- Accounts of rings. -/
import Derived.Test.YtpfpgjkbnjnjnaaWAa
import Derived.Test.YtpfpgjkbnjnjnaaWKa
import Derived.Test.YtpfpgjkbnjnjnaaProg
import Derived.KernelRfl
namespace Go.Proofs.Ytpfpgjkbnjnjnaa.Rg
open Go Go.Vm
set_option linter.unusedSimpArgs false
set_option maxRecDepth 10000

abbrev u64 : Sh := .int .u64
abbrev i64 : Sh := .int .i64
abbrev idS : Sh := .struct [u64, u64]
abbrev storedS : Sh := .struct [idS, u64, u64, i64, i64]
abbrev ringS : Sh := .struct [u64, i64, u64, u64, .arr 64 storedS]
def tab : List (Nat × Sh) := [(113, ringS), (34, storedS), (24, idS), (22, u64), (3, i64), (2, i64), (4, .bool), (35, i64), (111, .arr 64 storedS), (190, .arr 64 .bool), (63, .slice storedS)]
def c0 : Ctx := ⟨tab, [], [], [], keep, []⟩

def placeI (size no : Int) : Int := IntKind.i64.wrap ((IntKind.u64.wrap (no - 1)).tmod (IntKind.u64.wrap size))
def sPlace : Sum := ⟨[ringS, u64], fun
  | [r, _] => some (IntKind.u64.wrap (r.nth 1).int ≠ 0)
  | _ => none, fun
  | [r, no] => .dat i64 (.I (placeI (r.nth 1).int no.int))
  | _ => .und⟩
theorem place_fun : FunOK c0 20 Try.f79 sPlace := fun _ _ _ _ h => ⟨h, Bears.rfl⟩

def idD (l n : Int) : D := .L [.I l, .I n]
def evF (l no : Int) (x b : D) : Int :=
  if eqD idS (x.nth 0) (idD l no) = false then 3
  else if ltB (x.nth 3).int 0 || ltB 25 (x.nth 3).int then 11
  else if ltB (x.nth 1).int 1 || ltB 1099511627776 (x.nth 1).int || ltB 1099511627776 (x.nth 2).int then 2
  else if leB (x.nth 1).int (b.nth 1).int || ltB (x.nth 2).int (b.nth 2).int then 9 else 0
def sEvent : Sum := ⟨[ringS, u64, storedS, storedS], fun _ => none, fun
  | [r, no, x, b] => .dat i64 (.I (evF (r.nth 0).int no.int x b))
  | _ => .und⟩
theorem event_fun : FunOK c0 40 Try.f86 sEvent := fun r _ no _ x _ b _ _ => by
  refine ⟨fun h1 => Bears.int ?_, fun h1 => ⟨fun h2 => Bears.int ?_, fun h2 => ⟨fun h3 => Bears.int ?_, fun h3 => ⟨fun h4 => Bears.int ?_, fun h4 => Bears.int ?_⟩⟩⟩⟩
  all_goals (try simp at h1); (try simp at h2); (try simp at h3); (try simp at h4); simp only [D.int_I, evF]; simp_all [eqD, eqDs, idD]
  · rw [if_neg (by omega), if_neg (by omega)]
  · rw [if_neg (by omega), if_neg (by omega), if_neg (by omega)]

def badR (r : D) : Bool := ltB (r.nth 1).int 1 || ltB 64 (r.nth 1).int || ltB (r.nth 2).int 1 || ltB (r.nth 3).int (r.nth 2).int || ltB 1099511627777 (r.nth 3).int || ltB (IntKind.u64.wrap (r.nth 1).int) (IntKind.u64.wrap ((r.nth 3).int - (r.nth 2).int))
/-- How many events; where one lies; the event; the one before it; its error. -/
def cap (r : D) : Nat := ((r.nth 3).int - (r.nth 2).int).toNat
def pl (r : D) (i : Nat) : Nat := (placeI (r.nth 1).int ((r.nth 2).int + i)).toNat
def evAt (r : D) (i : Nat) : D := (r.nth 4).nth (pl r i)
def bef (r : D) : Nat → D
  | 0 => D0 storedS
  | i + 1 => evAt r i
def er (r : D) (i : Nat) : Int := evF (r.nth 0).int ((r.nth 2).int + i) (evAt r i) (bef r i)
def used (r : D) (i j : Nat) : Bool := (List.range i).any fun k => pl r k == j
def firstErrN (f : Nat → Int) : Nat → Int
  | 0 => 0
  | n + 1 => if firstErrN f n ≠ 0 then firstErrN f n else f n
def nz (r : D) (j : Nat) : Bool := !eqD storedS ((r.nth 4).nth j) (D0 storedS)
def stray (r : D) : Bool := (List.range 64).any fun j => !used r (cap r) j && nz r j
def chk (r : D) : Int := if badR r = true then 2 else if firstErrN (er r) (cap r) ≠ 0 then firstErrN (er r) (cap r) else if stray r = true then 3 else 0
theorem firstErrN_zero {f : Nat → Int} : ∀ {n : Nat}, (∀ k, k < n → f k = 0) → firstErrN f n = 0
  | 0, _ => rfl
  | n + 1, h => by
    have h1 := firstErrN_zero (n := n) fun k hk => h k (by omega)
    simp [firstErrN, h1, h n (by omega)]
theorem firstErrN_le {f : Nat → Int} {n m : Nat} (hnm : n ≤ m) (h : firstErrN f n ≠ 0) : firstErrN f m = firstErrN f n := by
  induction hnm with
  | refl => rfl
  | step _ ih => simp only [firstErrN, ih]; rw [if_pos h]
theorem firstErrN_at {f : Nat → Int} {n m : Nat} (hnm : n < m) (h0 : ∀ k, k < n → f k = 0) (h : f n ≠ 0) : firstErrN f m = f n := by
  have h1 : firstErrN f (n + 1) = f n := by simp [firstErrN, firstErrN_zero h0]
  rw [firstErrN_le hnm (by rw [h1]; exact h), h1]

def sCheck : Sum := ⟨[ringS], fun _ => none, fun
  | [r] => .dat i64 (.I (chk r))
  | _ => .und⟩
noncomputable def cCheck : Ctx := ⟨tab, [(192, .nilFunc)], [(79, sPlace), (86, sEvent)], [(85, Try.f85), (95, Try.f95)], keep, []⟩
theorem wrap_sub {a b : Int} (h1 : 1 ≤ b) (h2 : b ≤ a) (h3 : a ≤ 1099511627777) : IntKind.u64.wrap (a - b) = a - b := wrap_u64 (by omega) (by omega)
theorem badR_false {r : D} (h : badR r = false) : 1 ≤ (r.nth 1).int ∧ (r.nth 1).int ≤ 64 ∧ 1 ≤ (r.nth 2).int ∧ (r.nth 2).int ≤ (r.nth 3).int ∧ (r.nth 3).int ≤ 1099511627777 ∧ (r.nth 3).int - (r.nth 2).int ≤ (r.nth 1).int := by
  simp [badR] at h
  obtain ⟨⟨⟨⟨⟨a1, a2⟩, a3⟩, a4⟩, a5⟩, a6⟩ := h
  rw [wrap_sub a3 a4 a5, wrap_u64 (by omega) (by omega)] at a6
  exact ⟨a1, a2, a3, a4, a5, a6⟩
theorem placeI_eq {size no : Int} (h1 : 1 ≤ size) (h2 : size ≤ 64) (h3 : 1 ≤ no) (h4 : no ≤ 1099511627777) : placeI size no = (no - 1) % size := by
  unfold placeI
  rw [wrap_u64 (n := no - 1) (by omega) (by omega), wrap_u64 (n := size) (by omega) (by omega), Int.tmod_eq_emod_of_nonneg (by omega)]
  have a := Int.emod_nonneg (no - 1) (show size ≠ 0 by omega)
  have b := Int.emod_lt_of_pos (no - 1) (show 0 < size by omega)
  exact wrap_i64 (by omega) (by omega)
theorem placeI_lt {size no : Int} (h1 : 1 ≤ size) (h2 : size ≤ 64) (h3 : 1 ≤ no) (h4 : no ≤ 1099511627777) : 0 ≤ placeI size no ∧ placeI size no < size := by
  rw [placeI_eq h1 h2 h3 h4]
  exact ⟨Int.emod_nonneg _ (by omega), Int.emod_lt_of_pos _ (by omega)⟩
theorem used_succ (r : D) (i j : Nat) : used r (i + 1) j = (used r i j || pl r i == j) := by
  simp [used, List.range_succ]

theorem check_fun : FunOK cCheck 100 Try.f63 sCheck := fun r _ _ => by
  refine ⟨fun h1 => Bears.int ?_, fun h1 => ?_⟩
  · replace h1 : badR r = true := h1
    simp [chk, h1]
  replace h1 : badR r = false := h1
  have hb := badR_false h1
  refine ⟨{ x : Nat × D // x.1 ≤ cap r ∧ (∀ k, k < x.1 → er r k = 0) ∧ ∀ j, j < 64 → (x.2.nth j).bool = used r x.1 j }, 7, fun x => ([(0, .yld 6), (2, .ptr 4 ringS [] ringS), (4, .dat u64 (.I ((r.nth 2).int + x.1.1)))],
    [(6, .loop .ready), (4, .box ringS (.dat ringS r)), (3, .box storedS (.dat storedS (bef r x.1.1))), (2, .box (.arr 64 .bool) (.dat (.arr 64 .bool) x.1.2)), (1, .box i64 (.dat i64 (.I 0))), (0, .box ringS (.dat ringS r))]), fun x => cap r - x.1.1,
    ⟨(0, D0 (.arr 64 .bool)), by omega, fun k h => by omega, fun j _ => rfl⟩, ⟨[], rfl, ⟨rfl, rfl, ?_, trivial⟩, ⟨rfl, rfl, rfl, rfl, rfl, rfl, trivial⟩⟩, ?_⟩
  · refine congrArg (fun n => some (HV.dat u64 (D.I n))) ?_
    show (if (r.nth 2).int > 0 then (r.nth 2).int else 0) = (r.nth 2).int + ((0 : Nat) : Int)
    rw [if_pos (by omega)]; simp
  intro x
  obtain ⟨⟨i, u⟩, hi, he, hu⟩ := x
  simp only at hi he hu
  have hc : ((cap r : Nat) : Int) = (r.nth 3).int - (r.nth 2).int := by unfold cap; omega
  have hp := placeI_lt (no := (r.nth 2).int + i) hb.1 hb.2.1 (by omega) (by omega)
  have hw : IntKind.u64.wrap (r.nth 1).int = (r.nth 1).int := wrap_u64 (by omega) (by omega)
  have hp64 : 0 ≤ placeI (r.nth 1).int ((r.nth 2).int + i) ∧ placeI (r.nth 1).int ((r.nth 2).int + i) < ((64 : Nat) : Int) := ⟨hp.1, by have := hp.2; omega⟩
  refine ⟨fun h2 => ⟨?_, hp64, by kernel_rfl, fun h3 => ⟨fun h4 => Bears.int ?_, fun h4 => ?_⟩, fun h3 => ⟨hp64, hp64, by kernel_rfl, fun h4 => ?_, fun h4 => ?_⟩⟩, fun h2 => ?_⟩
  · show IntKind.u64.wrap (r.nth 1).int ≠ 0
    omega
  · have h5 : (er r i != 0) = true := h3
    show er r i = chk r
    simp at h2 h5
    have hlt : i < cap r := by omega
    have h6 := firstErrN_at (f := er r) hlt he h5
    simp [chk, h1, h6, h5]
  · simp at h4
  · simp at h4
  · have h5 : (er r i != 0) = false := h3
    simp at h2 h5
    refine ⟨⟨(i + 1, D.puts (.arr 64 .bool) u [.idx (placeI (r.nth 1).int ((r.nth 2).int + i)).toNat] (.B true)), by show i + 1 ≤ cap r; omega, fun k hk => ?_, fun j hj => ?_⟩, ⟨[], rfl, ⟨rfl, rfl, ?_, trivial⟩, ⟨rfl, rfl, rfl, rfl, rfl, rfl, trivial⟩⟩, ?_⟩
    · rcases Nat.lt_or_eq_of_le (Nat.le_of_lt_succ hk) with h | rfl
      · exact he k h
      · exact h5
    · show ((D.puts (.arr 64 .bool) u [.idx (pl r i)] (.B true)).nth j).bool = used r (i + 1) j
      rw [used_succ]
      simp only [D.puts_idx, D.nth_F]
      by_cases e : j = pl r i
      · simp [e]
      · have e2 : (pl r i == j) = false := by simp; omega
        rw [if_neg e, e2, hu j hj]; simp
    · refine congrArg (fun n => some (HV.dat u64 (D.I n))) ?_
      show IntKind.u64.wrap ((r.nth 2).int + (i : Int) + 1) = (r.nth 2).int + ((i + 1 : Nat) : Int)
      rw [wrap_u64 (by omega) (by omega)]; omega
    · show cap r - (i + 1) < cap r - i
      omega
  · simp at h2
    obtain rfl : i = cap r := by omega
    have hz := firstErrN_zero he
    refine ⟨{ j : Nat // j ≤ 64 ∧ ∀ k, k < j → (!used r (cap r) k && nz r k) = false }, 7, fun j => ([(67, .dat (.arr 64 .bool) u), (68, .dat i64 (.I j.1)), (1, .ptr 0 ringS [] ringS), (2, .ptr 1 i64 [] i64)],
      [(1, .box i64 (.dat i64 (.I 0))), (0, .box ringS (.dat ringS r))]), fun j => 64 - j.1, ⟨0, by omega, fun k h => by omega⟩, ⟨[], rfl, ⟨rfl, rfl, rfl, rfl, trivial⟩, ⟨rfl, rfl, trivial⟩⟩, ?_⟩
    intro x
    obtain ⟨j, hj, hn⟩ := x
    refine ⟨fun h3 => ⟨?_, ?_, fun h4 => Bears.int ?_, fun h4 => ?_⟩, fun h3 => Bears.int ?_⟩
    all_goals simp at h3
    · show 0 ≤ (j : Int) ∧ (j : Int) < 64
      omega
    · intro _
      show 0 ≤ (j : Int) ∧ (j : Int) < 64
      omega
    · replace h4 : (!(u.nth j).bool && nz r j) = true := h4
      rw [hu j (by omega)] at h4
      have hs : stray r = true := by
        simp only [stray, List.any_eq_true, List.mem_range]
        exact ⟨j, by omega, h4⟩
      show 3 = chk r
      simp [chk, h1, hz, hs]
    · replace h4 : (!(u.nth j).bool && nz r j) = false := h4
      rw [hu j (by omega)] at h4
      refine ⟨⟨j + 1, by omega, fun k hk => ?_⟩, ⟨[], rfl, ⟨rfl, congrArg some (succ_i64 (n := j) (by omega)), rfl, rfl, trivial⟩, ⟨rfl, rfl, trivial⟩⟩, ?_⟩
      · rcases Nat.lt_or_eq_of_le (Nat.le_of_lt_succ hk) with h | rfl
        · exact hn k h
        · exact h4
      · show 64 - (j + 1) < 64 - j
        omega
    · have hs : stray r = false := by
        rw [Bool.eq_false_iff]
        intro h
        simp only [stray, List.any_eq_true, List.mem_range] at h
        obtain ⟨k, h5, h6⟩ := h
        rw [hn k (by omega)] at h6
        cases h6
      show 0 = chk r
      simp [chk, h1, hz, hs]

/-! ### The others -/
def sNew : Sum := ⟨[u64, i64], fun _ => none, fun
  | [l, s] => .tup [.dat ringS (if ltB s.int 1 || ltB 64 s.int then D0 ringS else .L [l, s, .I 1, .I 1, D0 (.arr 64 storedS)]), .dat i64 (.I (if ltB s.int 1 || ltB 64 s.int then 2 else 0))]
  | _ => .und⟩
theorem new_fun : FunOK c0 40 Try.f59 sNew := fun l _ s _ _ => by
  refine ⟨fun h1 => ⟨Bears.same ?_, Bears.int ?_, trivial⟩, fun h1 => ⟨Bears.same ?_, Bears.int ?_, trivial⟩⟩
  all_goals replace h1 : (ltB s.int 1 || ltB 64 s.int) = _ := h1
  all_goals simp only [h1, if_true, if_false, Bool.false_eq_true]
  · exact Same.rfl
  · rfl
  · exact ⟨rfl, rfl, rfl, rfl, fun _ _ => Same.rfl, trivial⟩
  · rfl
def lenI (r : D) : Int := IntKind.i64.wrap (IntKind.u64.wrap ((r.nth 3).int - (r.nth 2).int))
def sLen : Sum := ⟨[ringS], fun _ => none, fun
  | [r] => .tup [.dat i64 (.I (if chk r ≠ 0 then 0 else lenI r)), .dat i64 (.I (chk r))]
  | _ => .und⟩
def cLen : Ctx := ⟨tab, [], [(63, sCheck)], [], keep, []⟩
theorem len_fun : FunOK cLen 40 Try.f92 sLen := fun r _ _ => by
  refine ⟨fun h1 => ⟨Bears.int ?_, Bears.int ?_, trivial⟩, fun h1 => ⟨Bears.int ?_, Bears.int ?_, trivial⟩⟩
  all_goals replace h1 : (chk r != 0) = _ := h1
  all_goals simp at h1
  · simp [h1]
  · rfl
  · show lenI r = if chk r ≠ 0 then 0 else lenI r
    simp [h1]
  · simp [h1]
end Go.Proofs.Ytpfpgjkbnjnjnaa.Rg
