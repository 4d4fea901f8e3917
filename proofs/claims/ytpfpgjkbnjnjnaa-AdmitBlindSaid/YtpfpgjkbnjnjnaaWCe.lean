/- Configurations, in plain Lean: what the functions give. Accounts of configurations: the program's Check. Accounts of configurations: the reference's Check. Accounts of configurations: what is asked of one. Accounts of configurations: the class of a label, what is seen; the first law. -/
import Derived.Test.YtpfpgjkbnjnjnaaWAa
import Derived.Test.YtpfpgjkbnjnjnaaWKa
import Derived.Test.YtpfpgjkbnjnjnaaProg
import Derived.KernelRfl
namespace Go.Proofs.Ytpfpgjkbnjnjnaa.Cf
open Go Go.Vm
set_option linter.unusedSimpArgs false
set_option maxRecDepth 10000

abbrev u64 : Sh := .int .u64
abbrev i64 : Sh := .int .i64
abbrev classS : Sh := .struct [u64, i64, i64]
abbrev tenS : Sh := .struct [i64, i64, i64, i64, i64]
abbrev ruleS : Sh := .struct [i64, u64, u64, .bool, i64, i64, i64]
abbrev configS : Sh := .struct [.slice classS, .arr 6 tenS, .slice ruleS, u64]
abbrev ratesS : Sh := .struct [.slice i64]

def cls (c : D) : List D := (c.nth 0).list
def rls (c : D) : List D := (c.nth 2).list
def nC (c : D) : Nat := (cls c).length
def nR (c : D) : Nat := (rls c).length
def clsAt (c : D) (i : Nat) : D := (cls c).getD i .Z
def rlsAt (c : D) (i : Nat) : D := (rls c).getD i .Z
def labAt (c : D) (i : Nat) : Int := ((clsAt c i).nth 0).int
def sizeAt (c : D) (i : Nat) : Int := ((clsAt c i).nth 1).int
def rateAt (c : D) (i : Nat) : Int := ((clsAt c i).nth 2).int
def out (n a b : Int) : Bool := ltB n a || ltB b n
def clBad (x : D) : Bool := out (x.nth 1).int 1 64 || out (x.nth 2).int 0 64
def labL (l : List D) (i : Nat) : Int := ((l.getD i .Z).nth 0).int
def dupL (l : List D) (i : Nat) : Bool := (List.range i).any fun k => labL l k == labL l i
def clEL (l : List D) (i : Nat) : Int := if clBad (l.getD i .Z) = true then 2 else if dupL l i = true then 8 else 0
def clE (c : D) (i : Nat) : Int := clEL (cls c) i
def tnBad (t : D) : Bool := out (t.nth 0).int 1 64 || out (t.nth 1).int 0 4 || out (t.nth 2).int 0 64 || out (t.nth 3).int 0 64 || out (t.nth 4).int 0 64
def tnE (c : D) (i : Nat) : Int := if tnBad ((c.nth 1).nth i) = true then 2 else 0
def belowB (a b : Int) : Bool := bitsOp .andNot .u64 a b == 0
def badOwner (r : D) : Bool := ltB (r.nth 0).int 1 || ltB 6 (r.nth 0).int || ltB (r.nth 4).int 0 || ltB 25 (r.nth 4).int || ((r.nth 3).bool && (r.nth 4).int != 0)
def ruF (r : D) : Int := if badOwner r = true then 2 else if belowB (r.nth 2).int (r.nth 1).int = false then 13 else if (r.nth 5).int > (r.nth 6).int then 9 else 0
def ruE (c : D) (i : Nat) : Int := ruF (rlsAt c i)
/-- The first place, of m from i on, at which f is not 0; the place behind them if there is none. -/
def fi (f : Nat → Int) : Nat → Nat → Nat
  | 0, i => i
  | m + 1, i => if f i ≠ 0 then i else fi f m (i + 1)
theorem fi_le {f : Nat → Int} : ∀ {m i : Nat}, i ≤ fi f m i ∧ fi f m i ≤ i + m
  | 0, i => by simp [fi]
  | m + 1, i => by
    have := fi_le (f := f) (m := m) (i := i + 1)
    simp only [fi]; split <;> omega
theorem fi_at {f : Nat → Int} : ∀ {m i n : Nat}, n < m → (∀ k, k < n → f (i + k) = 0) → f (i + n) ≠ 0 → fi f m i = i + n
  | 0, _, _, h, _, _ => by omega
  | m + 1, i, 0, _, _, h => by simp only [Nat.add_zero] at h; simp [fi, h]
  | m + 1, i, n + 1, hn, h0, h => by
    have h1 := h0 0 (by omega)
    simp only [Nat.add_zero] at h1
    have := fi_at (f := f) (m := m) (i := i + 1) (n := n) (by omega) (fun k hk => by have := h0 (k + 1) (by omega); rw [show i + (k + 1) = i + 1 + k by omega] at this; exact this) (by rw [show i + (n + 1) = i + 1 + n by omega] at h; exact h)
    simp only [fi, h1, ne_eq, not_true, if_false, this]; omega
theorem fi_end {f : Nat → Int} : ∀ {m i : Nat}, (∀ k, k < m → f (i + k) = 0) → fi f m i = i + m
  | 0, i, _ => rfl
  | m + 1, i, h => by
    have h1 := h 0 (by omega)
    simp only [Nat.add_zero] at h1
    have := fi_end (f := f) (m := m) (i := i + 1) fun k hk => by have := h (k + 1) (by omega); rw [show i + (k + 1) = i + 1 + k by omega] at this; exact this
    simp only [fi, h1, ne_eq, not_true, if_false, this]; omega
theorem fi_0 {f : Nat → Int} {m : Nat} {n : Nat} (h : n < m) (h0 : ∀ k, k < n → f k = 0) (hn : f n ≠ 0) : fi f m 0 = n := by
  rw [fi_at (i := 0) h (fun k hk => by rw [Nat.zero_add]; exact h0 k hk) (by rw [Nat.zero_add]; exact hn), Nat.zero_add]
theorem fi_all {f : Nat → Int} {m : Nat} (h0 : ∀ k, k < m → f k = 0) : fi f m 0 = m := by
  rw [fi_end (i := 0) fun k hk => by rw [Nat.zero_add]; exact h0 k hk, Nat.zero_add]
theorem fi_spec {f : Nat → Int} : ∀ {m i : Nat}, (∀ k, i ≤ k → k < fi f m i → f k = 0) ∧ (fi f m i < i + m → f (fi f m i) ≠ 0)
  | 0, i => by simp [fi]; intro k h1 h2; omega
  | m + 1, i => by
    have ih := fi_spec (f := f) (m := m) (i := i + 1)
    simp only [fi]
    by_cases h : f i = 0
    · simp only [h, ne_eq, not_true, if_false]
      refine ⟨fun k h1 h2 => ?_, fun h1 => ih.2 (by omega)⟩
      rcases Nat.eq_or_lt_of_le h1 with rfl | h3
      · exact h
      · exact ih.1 k h3 h2
    · simp only [h, ne_eq, not_false_iff, if_true]
      exact ⟨fun k h1 h2 => by omega, fun _ => by first | exact h | trivial⟩
def fullB (c : D) : Bool := ltB 8 (nC c : Int) || ltB 8 (nR c : Int)
def horBad (c : D) : Bool := out (c.nth 3).int 1 10000
/-- The error of a configuration, and its number. -/
def chE (c : D) : Int := if fullB c = true then 6
  else if fi (clE c) (nC c) 0 < nC c then clE c (fi (clE c) (nC c) 0)
  else if fi (tnE c) 6 0 < 6 then tnE c (fi (tnE c) 6 0)
  else if fi (ruE c) (nR c) 0 < nR c then ruE c (fi (ruE c) (nR c) 0)
  else if horBad c = true then 2 else 0
def chA (c : D) : Int := if fullB c = true then 0
  else if fi (clE c) (nC c) 0 < nC c then (fi (clE c) (nC c) 0 : Nat)
  else if fi (tnE c) 6 0 < 6 then (fi (tnE c) 6 0 : Nat)
  else if fi (ruE c) (nR c) 0 < nR c then (fi (ruE c) (nR c) 0 : Nat)
  else 0
def sCheckC : Sum := ⟨[configS], fun _ => none, fun
  | [c] => .tup [.dat i64 (.I (chE c)), .dat i64 (.I (chA c))]
  | _ => .und⟩
/-- Where the checks of classes, tenants and rules stand: at a place with an error. -/
theorem ch_cls {c : D} (hf : fullB c = false) {i : Nat} (hi : i < nC c) (h0 : ∀ k, k < i → clE c k = 0) (h : clE c i ≠ 0) : chE c = clE c i ∧ chA c = i := by
  have e := fi_0 hi h0 h
  simp only [chE, chA, hf, Bool.false_eq_true, if_false, e, if_pos hi, and_self]
theorem ch_ten {c : D} (hf : fullB c = false) (hc : ∀ k, k < nC c → clE c k = 0) {i : Nat} (hi : i < 6) (h0 : ∀ k, k < i → tnE c k = 0) (h : tnE c i ≠ 0) : chE c = tnE c i ∧ chA c = i := by
  have e := fi_0 hi h0 h
  have e1 := fi_all hc
  simp only [chE, chA, hf, Bool.false_eq_true, if_false, e, e1, Nat.lt_irrefl, if_pos hi, and_self]
theorem ch_rul {c : D} (hf : fullB c = false) (hc : ∀ k, k < nC c → clE c k = 0) (ht : ∀ k, k < 6 → tnE c k = 0) {i : Nat} (hi : i < nR c) (h0 : ∀ k, k < i → ruE c k = 0) (h : ruE c i ≠ 0) : chE c = ruE c i ∧ chA c = i := by
  have e := fi_0 hi h0 h
  have e1 := fi_all hc
  have e2 := fi_all ht
  simp only [chE, chA, hf, Bool.false_eq_true, if_false, e, e1, e2, Nat.lt_irrefl, if_pos hi, and_self]
theorem ch_hor {c : D} (hf : fullB c = false) (hc : ∀ k, k < nC c → clE c k = 0) (ht : ∀ k, k < 6 → tnE c k = 0) (hr : ∀ k, k < nR c → ruE c k = 0) : chE c = (if horBad c = true then 2 else 0) ∧ chA c = 0 := by
  have e := fi_all hr
  have e1 := fi_all hc
  have e2 := fi_all ht
  simp only [chE, chA, hf, Bool.false_eq_true, if_false, e, e1, e2, Nat.lt_irrefl, and_self]
theorem ch_full {c : D} (hf : fullB c = true) : chE c = 6 ∧ chA c = 0 := by simp [chE, chA, hf]
/-- What it is to be right. -/
theorem ch_ok {c : D} : chE c = 0 ↔ fullB c = false ∧ (∀ k, k < nC c → clE c k = 0) ∧ (∀ k, k < 6 → tnE c k = 0) ∧ (∀ k, k < nR c → ruE c k = 0) ∧ horBad c = false := by
  constructor
  · intro h
    have s1 := fi_spec (f := clE c) (m := nC c) (i := 0)
    have s2 := fi_spec (f := tnE c) (m := 6) (i := 0)
    have s3 := fi_spec (f := ruE c) (m := nR c) (i := 0)
    have l1 := fi_le (f := clE c) (m := nC c) (i := 0)
    have l2 := fi_le (f := tnE c) (m := 6) (i := 0)
    have l3 := fi_le (f := ruE c) (m := nR c) (i := 0)
    simp only [chE] at h
    split at h
    · omega
    · rename_i hf
      split at h
      · rename_i h1; exact absurd h (s1.2 (by omega))
      · rename_i h1
        split at h
        · rename_i h2; exact absurd h (s2.2 (by omega))
        · rename_i h2
          split at h
          · rename_i h3; exact absurd h (s3.2 (by omega))
          · rename_i h3
            split at h
            · omega
            · rename_i h4
              exact ⟨by simpa using hf, fun k hk => s1.1 k (by omega) (by omega), fun k hk => s2.1 k (by omega) (by omega), fun k hk => s3.1 k (by omega) (by omega), by simpa using h4⟩
  · rintro ⟨h1, h2, h3, h4, h5⟩
    rw [(ch_hor h1 h2 h3 h4).1, h5]; rfl
end Go.Proofs.Ytpfpgjkbnjnjnaa.Cf

namespace Go.Proofs.Ytpfpgjkbnjnjnaa.Cf
open Go Go.Vm
set_option linter.unusedSimpArgs false
set_option maxRecDepth 10000

def tab : List (Nat × Sh) := [(53, configS), (47, .slice classS), (73, classS), (50, .arr 6 tenS), (49, tenS), (51, .slice ruleS), (78, ruleS),
  (22, u64), (3, i64), (2, i64), (4, .bool), (35, i64), (28, .slice i64), (188, .arr 2 i64), (189, .slice (.arr 2 i64)), (83, .slice u64), (30, ratesS)]
def refs : List (Nat × Value) := [(158, .nilFunc)]
def mps : List (Nat × MI) := [(186, .map u64 .bool), (204, .map u64 i64), (160, .vec)]
def c0 : Ctx := ⟨tab, refs, [], [], keep, mps⟩

def sBelow : Sum := ⟨[u64, u64], fun _ => none, fun
  | [a, b] => .dat .bool (.B (belowB a.int b.int))
  | _ => .und⟩
theorem below_fun : FunOK c0 20 Try.f53 sBelow := fun _ _ _ _ _ => Bears.rfl
/-- The numbers are within their limits. -/
def inL (n l : List D) (i : Nat) : Bool := !out (n.getD i .Z).int ((l.getD i .Z).nth 0).int ((l.getD i .Z).nth 1).int
def withinB (n l : List D) : Bool := (List.range n.length).all (inL n l)
def sWithin : Sum := ⟨[.slice i64, .slice (.arr 2 i64)], fun
  | [n, l] => some (n.list.length ≤ l.list.length)
  | _ => none, fun
  | [n, l] => .dat .bool (.B (withinB n.list l.list))
  | _ => .und⟩
theorem within_fun : FunOK c0 60 Try.f82 sWithin := fun n hn l _ h => by
  simp only [InR] at hn
  replace h : n.list.length ≤ l.list.length := h
  refine ⟨{ i : Nat // i ≤ n.list.length ∧ ∀ k, k < i → inL n.list l.list k = true }, 0, fun i => ([(7, .dat (.slice i64) n), (8, .dat i64 (.I n.list.length)), (9, .dat i64 (.I i.1)), (1, .dat (.slice (.arr 2 i64)) l)], []), fun i => n.list.length - i.1,
    ⟨0, by omega, fun k h => by omega⟩, ⟨[], rfl, ⟨rfl, rfl, rfl, rfl, trivial⟩, trivial⟩, ?_⟩
  intro x
  obtain ⟨i, hi, hp⟩ := x
  have hlt : ltB (i : Int) (n.list.length : Int) = true → i < n.list.length := fun h => by simp only [ltB_true] at h; omega
  have hge : ltB (i : Int) (n.list.length : Int) = false → i = n.list.length := fun h => by simp only [ltB_false] at h; omega
  refine ⟨fun h1 => ⟨?_, ?_, by decide, fun _ => ⟨?_, ?_⟩, fun _ => by decide, fun h2 => Bears.bool ?_, fun h2 => ?_⟩, fun h1 => Bears.bool ?_⟩
  · have := hlt h1; show 0 ≤ (i : Int) ∧ (i : Int) < n.list.length; omega
  · have := hlt h1; show 0 ≤ (i : Int) ∧ (i : Int) < l.list.length; omega
  · show 0 ≤ (i : Int); omega
  · have := hlt h1; show (i : Int) < l.list.length; omega
  · have hk := hlt h1
    replace h2 : (ltB (n.list.getD i .Z).int ((l.list.getD i .Z).nth 0).int || ltB ((l.list.getD i .Z).nth 1).int (n.list.getD i .Z).int) = true := h2
    show false = withinB n.list l.list
    symm
    rw [withinB, List.all_eq_false]
    exact ⟨i, by simpa using hk, by simp only [inL, out, h2]; decide⟩
  · have hk := hlt h1
    replace h2 : (ltB (n.list.getD i .Z).int ((l.list.getD i .Z).nth 0).int || ltB ((l.list.getD i .Z).nth 1).int (n.list.getD i .Z).int) = false := h2
    refine ⟨⟨i + 1, by omega, fun k hk2 => ?_⟩, ⟨[], rfl, ⟨rfl, rfl, slot (i64_1 (n := i) (by omega)), rfl, trivial⟩, trivial⟩, by show _ - (i + 1) < _ - i; omega⟩
    rcases Nat.lt_or_eq_of_le (Nat.le_of_lt_succ hk2) with h | rfl
    · exact hp k h
    · simp only [inL, out, h2]; rfl
  · have hk := hge h1
    show true = withinB n.list l.list
    symm
    rw [withinB, List.all_eq_true]
    intro k hk2
    exact hp k (by simp only [List.mem_range] at hk2; omega)
def sCl : Sum := ⟨[configS], fun _ => none, fun
  | [c] => .fn 81 [.gptr configS c]
  | _ => .und⟩
theorem classes_fun : FunOK c0 20 Try.f60 sCl := fun _ _ _ => ⟨rfl, Bears.rfl, trivial⟩
def sTn : Sum := ⟨[configS], fun _ => none, fun
  | [c] => .fn 83 [.gptr configS c]
  | _ => .und⟩
theorem tenants_fun : FunOK c0 20 Try.f61 sTn := fun _ _ _ => ⟨rfl, Bears.rfl, trivial⟩
def sRu : Sum := ⟨[configS], fun _ => none, fun
  | [c] => .fn 84 [.gptr configS c]
  | _ => .und⟩
theorem rules_fun : FunOK c0 20 Try.f62 sRu := fun _ _ _ => ⟨rfl, Bears.rfl, trivial⟩
noncomputable def cCheck : Ctx := ⟨tab, refs, [(60, sCl), (61, sTn), (62, sRu), (82, sWithin), (53, sBelow)],
  [(81, Try.f81), (83, Try.f83), (84, Try.f84)], keep, mps⟩
theorem mGet_mPut {z k v : D} {L : Int} : ∀ {es : List (D × D)}, mGet z L (mPut k v es) = if k.int = L then v else mGet z L es
  | [] => by simp [mPut, mGet]
  | (k', v') :: es => by
    have ih := mGet_mPut (z := z) (k := k) (v := v) (L := L) (es := es)
    simp only [mPut]
    by_cases h : k'.int = k.int
    · rw [if_pos h]
      simp only [mGet, h]
      split <;> rfl
    · rw [if_neg h]
      simp only [mGet, ih]
      by_cases h2 : k'.int = L
      · have : ¬ k.int = L := by omega
        simp [h2, this]
      · simp [h2]
theorem ft {P : Prop} (h : false = true) : P := by cases h
theorem tf {P : Prop} (h : true = false) : P := by cases h
theorem cl_within (x : D) : withinB [.I (x.nth 1).int, .I (x.nth 2).int] [.L [.I 1, .I 64], .L [.I 0, .I 64]] = !clBad x := by
  simp [withinB, inL, clBad, List.range_succ]
def lims : List D := [.L [.I 1, .I 64], .L [.I 0, .I 4], .L [.I 0, .I 64], .L [.I 0, .I 64], .L [.I 0, .I 64]]
theorem tn_within (x : D) : withinB [.I (x.nth 0).int, .I (x.nth 1).int, .I (x.nth 2).int, .I (x.nth 3).int, .I (x.nth 4).int] lims = !tnBad x := by
  simp [withinB, inL, tnBad, lims, List.range_succ, Bool.and_assoc]
theorem clE_2 {c : D} {i : Nat} (h : clBad (clsAt c i) = true) : clE c i = 2 := by
  show (if clBad (clsAt c i) = true then (2 : Int) else _) = 2
  rw [if_pos h]
theorem clE_8 {c : D} {i : Nat} (h : clBad (clsAt c i) = false) (h2 : ((List.range i).any fun k => labAt c k == labAt c i) = true) : clE c i = 8 := by
  show (if clBad (clsAt c i) = true then (2 : Int) else if ((List.range i).any fun k => labAt c k == labAt c i) = true then 8 else 0) = 8
  rw [if_neg (by rw [h]; decide), if_pos h2]
theorem clE_0 {c : D} {i : Nat} (h : clBad (clsAt c i) = false) (h2 : ((List.range i).any fun k => labAt c k == labAt c i) = false) : clE c i = 0 := by
  show (if clBad (clsAt c i) = true then (2 : Int) else if ((List.range i).any fun k => labAt c k == labAt c i) = true then 8 else 0) = 0
  rw [if_neg (by rw [h]; decide), if_neg (by rw [h2]; decide)]
abbrev fns (c : D) : List HV := [.fn 81 [.gptr configS c], .fn 83 [.gptr configS c], .fn 84 [.gptr configS c]]
theorem check_fun : FunOK cCheck 100 Try.f41 sCheckC := fun c hcr _ => by
  simp only [InR, InRs] at hcr
  have hn0 : nC c ≤ 9223372036854775807 := hcr.1.1
  have hn2 : nR c ≤ 9223372036854775807 := hcr.2.2.1.1
  refine ⟨fun h1 => ⟨Bears.int ?_, Bears.int ?_, trivial⟩, fun h1 => ⟨by show (3 : Nat) ≤ 1000; omega, by kernel_rfl, ?_⟩⟩
  all_goals replace h1 : fullB c = _ := h1
  · exact (ch_full h1).1.symm
  · exact (ch_full h1).2.symm
  refine ⟨{ i : Nat // i ≤ 3 ∧ (1 ≤ i → ∀ k, k < nC c → clE c k = 0) ∧ (2 ≤ i → ∀ k, k < 6 → tnE c k = 0) ∧ (3 ≤ i → ∀ k, k < nR c → ruE c k = 0) }, 21, fun i => ([(26, .dat i64 (.I i.1)), (25, .dat i64 (.I 3)), (24, .own 15 .ref), (3, .ptr 2 i64 [] i64), (2, .ptr 1 i64 [] i64), (1, .ptr 0 configS [] configS)],
    [(15, .vec (fns c)), (2, .box i64 (.dat i64 (.I 0))), (1, .box i64 (.dat i64 (.I 0))), (0, .box configS (.dat configS c))]), fun i => 3 - i.1,
    ⟨0, by omega, fun h => by omega, fun h => by omega, fun h => by omega⟩, ⟨[], rfl, ⟨rfl, rfl, rfl, rfl, rfl, rfl, trivial⟩, ⟨rfl, rfl, rfl, rfl, trivial⟩⟩, ?_⟩
  intro x
  obtain ⟨i, hi, hc, ht, hr⟩ := x
  obtain rfl | rfl | rfl | rfl : i = 0 ∨ i = 1 ∨ i = 2 ∨ i = 3 := by omega
  · refine ⟨fun _ => ⟨by show (0 : Int) ≤ 0 ∧ (0 : Int) < 3; omega, { x : Nat × List (D × D) // x.1 ≤ nC c ∧ (∀ k, k < x.1 → clE c k = 0) ∧ ∀ L, (mGet (.B false) L x.2).bool = (List.range x.1).any fun k => labAt c k == L }, 23,
      fun x => ([(11, .dat i64 (.I x.1.1)), (10, .dat i64 (.I (nC c))), (9, .dat (.slice classS) (c.nth 0)), (3, .mp 22 u64 .bool), (0, .yld 21), (1, .gptr configS c)], [(22, .map u64 .bool x.1.2), (21, .loop .ready), (15, .vec (fns c)), (2, .box i64 (.dat i64 (.I 0))), (1, .box i64 (.dat i64 (.I 0))), (0, .box configS (.dat configS c))]),
      fun x => nC c - x.1.1, ⟨(0, []), by omega, fun k h => by omega, fun L => rfl⟩, ⟨[], rfl, ⟨rfl, rfl, rfl, rfl, rfl, rfl, trivial⟩, ⟨rfl, rfl, rfl, rfl, rfl, rfl, trivial⟩⟩, ?_⟩, fun h1 => tf h1⟩
    intro x
    obtain ⟨⟨i, es⟩, hi, h0, hm⟩ := x
    simp only at hi h0 hm
    have hlt : ltB (i : Int) (nC c : Int) = true → i < nC c := fun h => by simp only [ltB_true] at h; omega
    have hge : ltB (i : Int) (nC c : Int) = false → i = nC c := fun h => by simp only [ltB_false] at h; omega
    refine ⟨fun h1 => ⟨?_, ?_, fun h2 => ⟨fun h3 => ⟨fun h4 => ⟨Bears.int ?_, Bears.int ?_, trivial⟩, fun h4 => tf h4⟩, fun h3 => tf h3⟩, fun h2 => ⟨fun h3 => ⟨fun h4 => ⟨fun h5 => ⟨Bears.int ?_, Bears.int ?_, trivial⟩, fun h5 => tf h5⟩, fun h4 => tf h4⟩, fun h3 => ⟨fun h4 => ft h4, fun h4 => ⟨fun h5 => ft h5, fun h5 => ?_⟩⟩⟩⟩, fun h1 => ?_⟩
    · have := hlt h1; show 0 ≤ (i : Int) ∧ (i : Int) < (nC c : Int); omega
    · exact Nat.le_refl 2
    · replace h2 : (!withinB [.I ((clsAt c i).nth 1).int, .I ((clsAt c i).nth 2).int] [.L [.I 1, .I 64], .L [.I 0, .I 64]]) = true := h2
      rw [cl_within, Bool.not_not] at h2
      have e := clE_2 h2
      show 2 = chE c
      rw [(ch_cls ‹fullB c = false› (hlt h1) h0 (by rw [e]; decide)).1, e]
    · replace h2 : (!withinB [.I ((clsAt c i).nth 1).int, .I ((clsAt c i).nth 2).int] [.L [.I 1, .I 64], .L [.I 0, .I 64]]) = true := h2
      rw [cl_within, Bool.not_not] at h2
      have e := clE_2 h2
      show (i : Int) = chA c
      rw [(ch_cls ‹fullB c = false› (hlt h1) h0 (by rw [e]; decide)).2]
    all_goals try replace h2 : (!withinB [.I ((clsAt c i).nth 1).int, .I ((clsAt c i).nth 2).int] [.L [.I 1, .I 64], .L [.I 0, .I 64]]) = false := h2
    all_goals try rw [cl_within, Bool.not_not] at h2
    all_goals try replace h3 : (mGet (.B false) (labAt c i) es).bool = _ := h3
    all_goals try rw [hm] at h3
    · have e := clE_8 h2 h3
      show 8 = chE c
      rw [(ch_cls ‹fullB c = false› (hlt h1) h0 (by rw [e]; decide)).1, e]
    · have e := clE_8 h2 h3
      show (i : Int) = chA c
      rw [(ch_cls ‹fullB c = false› (hlt h1) h0 (by rw [e]; decide)).2]
    · have hk := hlt h1
      have e := clE_0 h2 h3
      refine ⟨⟨(i + 1, mPut (.I (labAt c i)) (.B true) es), by show i + 1 ≤ _; omega, fun k hk2 => ?_, fun L => ?_⟩, ⟨[], rfl, ⟨slot (i64_1 (n := i) (by omega)), rfl, rfl, rfl, rfl, rfl, trivial⟩, ⟨rfl, rfl, rfl, rfl, rfl, rfl, trivial⟩⟩, by show _ - (i + 1) < _ - i; omega⟩
      · rcases Nat.lt_or_eq_of_le (Nat.le_of_lt_succ hk2) with h | rfl
        · exact h0 k h
        · exact e
      · show (mGet (.B false) L (mPut (.I (labAt c i)) (.B true) es)).bool = (List.range (i + 1)).any fun k => labAt c k == L
        rw [mGet_mPut, List.range_succ, List.any_append, ← hm]
        by_cases hL : labAt c i = L
        · rw [if_pos (show (D.I (labAt c i)).int = L from hL)]; simp [hL]
        · rw [if_neg (show ¬ (D.I (labAt c i)).int = L from hL)]; simp [hL]
    · have e := hge h1
      subst e
      exact ⟨⟨1, by omega, fun _ => h0, fun h => by omega, fun h => by omega⟩, ⟨[], rfl, ⟨rfl, rfl, rfl, rfl, rfl, rfl, trivial⟩, ⟨rfl, rfl, rfl, rfl, trivial⟩⟩, by show 3 - 1 < 3 - 0; omega⟩
  · refine ⟨fun _ => ⟨by show (0 : Int) ≤ 1 ∧ (1 : Int) < 3; omega, { i : Nat // i ≤ 6 ∧ ∀ k, k < i → tnE c k = 0 }, 23,
      fun i => ([(15, .dat i64 (.I i.1)), (14, .dat (.arr 6 tenS) (c.nth 1)), (3, .own 22 (.arr 2 i64)), (0, .yld 21), (1, .gptr configS c)], [(22, .grow (.arr 2 i64) lims), (21, .loop .ready), (15, .vec (fns c)), (2, .box i64 (.dat i64 (.I 0))), (1, .box i64 (.dat i64 (.I 0))), (0, .box configS (.dat configS c))]),
      fun i => 6 - i.1, ⟨0, by omega, fun k h => by omega⟩, ⟨[], rfl, ⟨rfl, rfl, rfl, rfl, rfl, trivial⟩, ⟨rfl, rfl, rfl, rfl, rfl, rfl, trivial⟩⟩, ?_⟩, fun h1 => tf h1⟩
    intro x
    obtain ⟨i, hi, h0⟩ := x
    have hlt : ltB (i : Int) 6 = true → i < 6 := fun h => by simp only [ltB_true] at h; omega
    have hge : ltB (i : Int) 6 = false → i = 6 := fun h => by simp only [ltB_false] at h; omega
    refine ⟨fun h1 => ⟨?_, ?_, fun h2 => ⟨fun h3 => ⟨fun h4 => ⟨Bears.int ?_, Bears.int ?_, trivial⟩, fun h4 => tf h4⟩, fun h3 => tf h3⟩, fun h2 => ⟨fun h3 => ft h3, fun h3 => ⟨fun h4 => ft h4, fun h4 => ?_⟩⟩⟩, fun h1 => ?_⟩
    · have := hlt h1; show 0 ≤ (i : Int) ∧ (i : Int) < ((6 : Nat) : Int); omega
    · exact Nat.le_refl 5
    · replace h2 : (!withinB [.I (((c.nth 1).nth i).nth 0).int, .I (((c.nth 1).nth i).nth 1).int, .I (((c.nth 1).nth i).nth 2).int, .I (((c.nth 1).nth i).nth 3).int, .I (((c.nth 1).nth i).nth 4).int] lims) = true := h2
      rw [tn_within, Bool.not_not] at h2
      have e : tnE c i = 2 := by simp only [tnE, h2, if_true]
      show 2 = chE c
      rw [(ch_ten ‹fullB c = false› (hc (by omega)) (hlt h1) h0 (by rw [e]; decide)).1, e]
    · replace h2 : (!withinB [.I (((c.nth 1).nth i).nth 0).int, .I (((c.nth 1).nth i).nth 1).int, .I (((c.nth 1).nth i).nth 2).int, .I (((c.nth 1).nth i).nth 3).int, .I (((c.nth 1).nth i).nth 4).int] lims) = true := h2
      rw [tn_within, Bool.not_not] at h2
      have e : tnE c i = 2 := by simp only [tnE, h2, if_true]
      show (i : Int) = chA c
      rw [(ch_ten ‹fullB c = false› (hc (by omega)) (hlt h1) h0 (by rw [e]; decide)).2]
    · replace h2 : (!withinB [.I (((c.nth 1).nth i).nth 0).int, .I (((c.nth 1).nth i).nth 1).int, .I (((c.nth 1).nth i).nth 2).int, .I (((c.nth 1).nth i).nth 3).int, .I (((c.nth 1).nth i).nth 4).int] lims) = false := h2
      rw [tn_within, Bool.not_not] at h2
      have e : tnE c i = 0 := by simp only [tnE, h2, Bool.false_eq_true, if_false]
      have hk := hlt h1
      refine ⟨⟨i + 1, by omega, fun k hk2 => ?_⟩, ⟨[], rfl, ⟨slot (i64_1 (n := i) (by omega)), rfl, rfl, rfl, rfl, trivial⟩, ⟨rfl, rfl, rfl, rfl, rfl, rfl, trivial⟩⟩, by show 6 - (i + 1) < 6 - i; omega⟩
      rcases Nat.lt_or_eq_of_le (Nat.le_of_lt_succ hk2) with h | rfl
      · exact h0 k h
      · exact e
    · have e := hge h1
      subst e
      exact ⟨⟨2, by omega, fun _ => hc (by omega), fun _ => h0, fun h => by omega⟩, ⟨[], rfl, ⟨rfl, rfl, rfl, rfl, rfl, rfl, trivial⟩, ⟨rfl, rfl, rfl, rfl, trivial⟩⟩, by show 3 - 2 < 3 - 1; omega⟩
  · refine ⟨fun _ => ⟨by show (0 : Int) ≤ 2 ∧ (2 : Int) < 3; omega, { i : Nat // i ≤ nR c ∧ ∀ k, k < i → ruE c k = 0 }, 22,
      fun i => ([(9, .dat i64 (.I i.1)), (8, .dat i64 (.I (nR c))), (7, .dat (.slice ruleS) (c.nth 2)), (0, .yld 21), (1, .gptr configS c)], [(21, .loop .ready), (15, .vec (fns c)), (2, .box i64 (.dat i64 (.I 0))), (1, .box i64 (.dat i64 (.I 0))), (0, .box configS (.dat configS c))]),
      fun i => nR c - i.1, ⟨0, by omega, fun k h => by omega⟩, ⟨[], rfl, ⟨rfl, rfl, rfl, rfl, rfl, trivial⟩, ⟨rfl, rfl, rfl, rfl, rfl, trivial⟩⟩, ?_⟩, fun h1 => tf h1⟩
    intro x
    obtain ⟨i, hi, h0⟩ := x
    have hlt : ltB (i : Int) (nR c : Int) = true → i < nR c := fun h => by simp only [ltB_true] at h; omega
    have hge : ltB (i : Int) (nR c : Int) = false → i = nR c := fun h => by simp only [ltB_false] at h; omega
    have fin : ∀ n : Int, n ≠ 0 → i < nR c → ruE c i = n → n = chE c ∧ (i : Int) = chA c := fun n hn hk e => by
      have := ch_rul ‹fullB c = false› (hc (by omega)) (ht (by omega)) hk h0 (by rw [e]; exact hn)
      rw [e] at this
      exact ⟨this.1.symm, this.2.symm⟩
    refine ⟨fun h1 => ⟨?_, fun h2 => ⟨fun h3 => ⟨fun h4 => ⟨Bears.int ?_, Bears.int ?_, trivial⟩, fun h4 => tf h4⟩, fun h3 => tf h3⟩, fun h2 => ⟨fun h3 => ⟨fun h4 => ⟨fun h5 => ⟨Bears.int ?_, Bears.int ?_, trivial⟩, fun h5 => tf h5⟩, fun h4 => tf h4⟩, fun h3 => ⟨fun h4 => ⟨fun h5 => ⟨fun h6 => ⟨Bears.int ?_, Bears.int ?_, trivial⟩, fun h6 => tf h6⟩, fun h5 => tf h5⟩, fun h4 => ⟨fun h5 => ft h5, fun h5 => ⟨fun h6 => ft h6, fun h6 => ?_⟩⟩⟩⟩⟩, fun h1 => ?_⟩
    · have := hlt h1; show 0 ≤ (i : Int) ∧ (i : Int) < (nR c : Int); omega
    all_goals try replace h2 : badOwner (rlsAt c i) = _ := h2
    · exact (fin 2 (by decide) (hlt h1) (by simp only [ruE, ruF, h2, if_true])).1
    · exact (fin 2 (by decide) (hlt h1) (by simp only [ruE, ruF, h2, if_true])).2
    all_goals try replace h3 : (!belowB ((rlsAt c i).nth 2).int ((rlsAt c i).nth 1).int) = _ := h3
    all_goals try simp only [Bool.not_eq_true', Bool.not_eq_false'] at h3
    · exact (fin 13 (by decide) (hlt h1) (by simp only [ruE, ruF, h2, h3, Bool.false_eq_true, if_false, if_true])).1
    · exact (fin 13 (by decide) (hlt h1) (by simp only [ruE, ruF, h2, h3, Bool.false_eq_true, if_false, if_true])).2
    all_goals try replace h4 : ltB ((rlsAt c i).nth 6).int ((rlsAt c i).nth 5).int = _ := h4
    all_goals try simp only [ltB_true, ltB_false] at h4
    · exact (fin 9 (by decide) (hlt h1) (by simp only [ruE, ruF, h2, h3, Bool.false_eq_true, Bool.true_eq_false, if_false]; rw [if_pos (by omega)])).1
    · exact (fin 9 (by decide) (hlt h1) (by simp only [ruE, ruF, h2, h3, Bool.false_eq_true, Bool.true_eq_false, if_false]; rw [if_pos (by omega)])).2
    · have e : ruE c i = 0 := by simp only [ruE, ruF, h2, h3, Bool.false_eq_true, Bool.true_eq_false, if_false]; rw [if_neg (by omega)]
      have hk := hlt h1
      refine ⟨⟨i + 1, by omega, fun k hk2 => ?_⟩, ⟨[], rfl, ⟨slot (i64_1 (n := i) (by omega)), rfl, rfl, rfl, rfl, trivial⟩, ⟨rfl, rfl, rfl, rfl, rfl, trivial⟩⟩, by show _ - (i + 1) < _ - i; omega⟩
      rcases Nat.lt_or_eq_of_le (Nat.le_of_lt_succ hk2) with h | rfl
      · exact h0 k h
      · exact e
    · have e := hge h1
      subst e
      exact ⟨⟨3, by omega, fun _ => hc (by omega), fun _ => ht (by omega), fun _ => h0⟩, ⟨[], rfl, ⟨rfl, rfl, rfl, rfl, rfl, rfl, trivial⟩, ⟨rfl, rfl, rfl, rfl, trivial⟩⟩, by show 3 - 3 < 3 - 2; omega⟩
  · refine ⟨fun h1 => ft h1, fun h1 => ⟨fun h2 => ⟨Bears.int ?_, Bears.int ?_, trivial⟩, fun h2 => ⟨Bears.int ?_, Bears.int ?_, trivial⟩⟩⟩
    all_goals have hh := ch_hor ‹fullB c = false› (hc (by omega)) (ht (by omega)) (hr (by omega))
    all_goals replace h2 : horBad c = _ := h2
    all_goals rw [h2] at hh
    · exact hh.1.symm
    · exact hh.2.symm
    · exact hh.1.symm
    · exact hh.2.symm
end Go.Proofs.Ytpfpgjkbnjnjnaa.Cf

namespace Go.Proofs.Ytpfpgjkbnjnjnaa.Cf
open Go Go.Vm
set_option linter.unusedSimpArgs false
set_option maxRecDepth 10000
def inB (n a b : Int) : Bool := leB a n && leB n b
theorem inB_out (n a b : Int) : inB n a b = !out n a b := by
  simp only [inB, out, leB, ltB, Bool.not_or]
  congr 1 <;> (rw [← decide_not]; congr 1; simp)
def sFrom : Sum := ⟨[i64, i64, i64], fun _ => none, fun
  | [n, a, b] => .dat .bool (.B (inB n.int a.int b.int))
  | _ => .und⟩
def cR1 : Ctx := ⟨tab, refs, [], [], keep, mps⟩
def sTen : Sum := ⟨[tenS], fun _ => none, fun
  | [t] => .dat .bool (.B (!tnBad t))
  | _ => .und⟩
def sRule : Sum := ⟨[ruleS], fun _ => none, fun
  | [r] => .dat i64 (.I (ruF r))
  | _ => .und⟩
def sClass : Sum := ⟨[.slice classS, i64], fun
  | [l, i] => some (0 ≤ i.int ∧ i.int < l.list.length)
  | _ => none, fun
  | [l, i] => .dat i64 (.I (clEL l.list i.int.toNat))
  | _ => .und⟩
def cR2 : Ctx := ⟨tab, refs, [], [], keep, mps⟩
theorem mixed : Try.prog.follows .mixedOrders = true := by kernel_rfl
theorem tabOK : tabB Try.prog tab = true := by kernel_rfl
theorem refsOK : refsB Try.prog refs = true := by kernel_rfl
theorem mpsOK : mapsB Try.prog mps = true := by kernel_rfl
theorem ctxOK {l : List (Nat × Sum)} (h : SumsOK Try.prog l) : CtxOK Try.prog ⟨tab, refs, l, [], keep, mps⟩ := CtxOK.of tabOK refsOK h FunsOK.nil mpsOK
theorem below_ok : SumOK Try.prog 53 sBelow := sumOK_of_vc (c := c0) (ctxOK .nil) mixed Try.func53 rfl (by decide) @below_fun
theorem within_ok : SumOK Try.prog 82 sWithin := sumOK_of_vc (c := c0) (ctxOK .nil) mixed Try.func82 rfl (by decide) @within_fun
theorem classes_ok : SumOK Try.prog 60 sCl := sumOK_of_vc (c := c0) (ctxOK .nil) mixed Try.func60 rfl (by decide) @classes_fun
theorem tenants_ok : SumOK Try.prog 61 sTn := sumOK_of_vc (c := c0) (ctxOK .nil) mixed Try.func61 rfl (by decide) @tenants_fun
theorem rules_ok : SumOK Try.prog 62 sRu := sumOK_of_vc (c := c0) (ctxOK .nil) mixed Try.func62 rfl (by decide) @rules_fun
theorem check_ok : SumOK Try.prog 41 sCheckC := sumOK_of_vc (c := cCheck) (CtxOK.of tabOK refsOK (.cons classes_ok (.cons tenants_ok (.cons rules_ok (.cons within_ok (.cons below_ok .nil)))))
  (.cons Try.func81 rfl (by decide) (.cons Try.func83 rfl (by decide) (.cons Try.func84 rfl (by decide) .nil))) mpsOK) mixed Try.func41 rfl (by decide) @check_fun
end Go.Proofs.Ytpfpgjkbnjnjnaa.Cf

namespace Go.Proofs.Ytpfpgjkbnjnjnaa.Cf
open Go Go.Vm
set_option linter.unusedSimpArgs false
set_option maxRecDepth 10000
theorem eqSame {s : Sh} {a b : D} (h : a = b) : Same s a b := h ▸ Same.rfl
theorem all_range {n : Nat} {p : Nat → Bool} (h : ∀ k, k < n → p k = true) : (List.range n).all p = true := by
  rw [List.all_eq_true]; intro k hk; exact h k (by simpa using hk)
theorem not_all_range {n k : Nat} {p : Nat → Bool} (hk : k < n) (h : p k = false) : (List.range n).all p = false := by
  rw [List.all_eq_false]; exact ⟨k, by simpa using hk, by simp [h]⟩
theorem upto {p : Nat → Prop} {i : Nat} (h : ∀ k, k < i → p k) (hi : p i) : ∀ k, k < i + 1 → p k := fun k hk => by
  rcases Nat.lt_or_eq_of_le (Nat.le_of_lt_succ hk) with h1 | rfl
  · exact h k h1
  · exact hi
theorem ltN {i n : Nat} (h : ltB (i : Int) (n : Int) = true) : i < n := by simp only [ltB_true] at h; omega
theorem geN {i n : Nat} (hi : i ≤ n) (h : ltB (i : Int) (n : Int) = false) : i = n := by simp only [ltB_false] at h; omega
def cK : Ctx := ⟨tab, refs, [(41, sCheckC), (53, sBelow)], [], keep, mps⟩
def sLight : Sum := ⟨[configS], fun _ => none, fun
  | [c] => .dat .bool (.B (leB (nC c) 12 && leB (nR c) 12))
  | _ => .und⟩
def sameI (a b : List D) : Bool := a.length == b.length && (List.range a.length).all fun j => (a.getD j .Z).int == (b.getD j .Z).int
def sSameI : Sum := ⟨[.slice i64, .slice i64], fun _ => none, fun
  | [a, b] => .dat .bool (.B (sameI a.list b.list))
  | _ => .und⟩
theorem sameInts_fun : FunOK c0 60 Try.f17 sSameI := fun a ha b hb _ => by
  simp only [InR] at ha hb
  have ha := ha.1
  have hb := hb.1
  refine ⟨fun h1 => Bears.bool ?_, fun h1 => ?_⟩
  all_goals replace h1 : ((a.list.length : Int) != (b.list.length : Int)) = _ := h1
  · show false = sameI a.list b.list
    simp only [bne_iff_ne, ne_eq, Int.natCast_inj] at h1
    simp only [sameI, beq_eq_false_iff_ne.mpr h1, Bool.false_and]
  simp only [bne_eq_false_iff_eq, Int.natCast_inj] at h1
  refine ⟨{ i : Nat // i ≤ a.list.length ∧ ∀ k, k < i → ((a.list.getD k .Z).int == (b.list.getD k .Z).int) = true }, 0, fun i => ([(5, .dat i64 (.I i.1)), (0, .dat (.slice i64) a), (1, .dat (.slice i64) b)], []), fun i => a.list.length - i.1,
    ⟨0, by omega, fun k h => by omega⟩, ⟨[], rfl, ⟨rfl, rfl, rfl, trivial⟩, trivial⟩, ?_⟩
  intro x
  obtain ⟨i, hi, h0⟩ := x
  have hlt : ltB (i : Int) (a.list.length : Int) = true → i < a.list.length := ltN
  have hge : ltB (i : Int) (a.list.length : Int) = false → i = a.list.length := geN hi
  refine ⟨fun h2 => ⟨?_, ?_, by kernel_rfl, fun h3 => Bears.bool ?_, fun h3 => ?_⟩, fun h2 => Bears.bool ?_⟩
  · have := hlt h2; show 0 ≤ (i : Int) ∧ (i : Int) < (a.list.length : Int); omega
  · have := hlt h2; show 0 ≤ (i : Int) ∧ (i : Int) < (b.list.length : Int); omega
  · replace h3 : ((a.list.getD i .Z).int != (b.list.getD i .Z).int) = true := h3
    show false = sameI a.list b.list
    rw [sameI, not_all_range (hlt h2) (by simpa [bne] using h3), Bool.and_false]
  · replace h3 : ((a.list.getD i .Z).int != (b.list.getD i .Z).int) = false := h3
    have := hlt h2
    exact ⟨⟨i + 1, by omega, upto h0 (by simpa [bne] using h3)⟩, ⟨[], rfl, ⟨slot (i64_1 (n := i) (by omega)), rfl, rfl, trivial⟩, trivial⟩, by show _ - (i + 1) < _ - i; omega⟩
  · have e := hge h2
    show true = sameI a.list b.list
    rw [sameI, all_range (fun k hk => h0 k (by omega)), h1]; simp
def sOkR : Sum := ⟨[configS], fun _ => none, fun
  | [c] => .dat i64 (.I (chE c))
  | _ => .und⟩
def tnErr (c : D) (t : Int) : Int := if chE c ≠ 0 then chE c else if out t 1 6 = true then 2 else 0
theorem tnErr_0 {c : D} {t : Int} (h : tnErr c t = 0) : chE c = 0 := by
  by_cases h1 : chE c = 0
  · exact h1
  · rw [tnErr, if_pos h1] at h; exact h
theorem nR_le {c : D} (h : chE c = 0) : nR c ≤ 8 := by
  have := (ch_ok.1 h).1
  simp only [fullB, Bool.or_eq_false_iff, ltB_false] at this
  omega
theorem nC_le {c : D} (h : chE c = 0) : nC c ≤ 8 := by
  have := (ch_ok.1 h).1
  simp only [fullB, Bool.or_eq_false_iff, ltB_false] at this
  omega
def tnGet (c : D) (t : Int) : D := if tnErr c t ≠ 0 then D0 tenS else (c.nth 1).nth (t - 1).toNat
def sTenant : Sum := ⟨[configS, i64], fun _ => none, fun
  | [c, t] => .tup [.dat tenS (tnGet c t.int), .dat i64 (.I (tnErr c t.int))]
  | _ => .und⟩
def cK2 : Ctx := ⟨tab, refs, [(53, sBelow), (41, sCheckC)], [], keep, mps⟩
def cT : Ctx := ⟨tab, refs, [], [], keep, mps⟩
/-- The numbers, of those below n, with a property. -/
def pick (p : Nat → Bool) (n : Nat) : List D := ((List.range n).filter p).map fun (i : Nat) => D.I (i : Int)
theorem pick_succ (p : Nat → Bool) (n : Nat) : pick p (n + 1) = pick p n ++ if p n = true then [.I n] else [] := by
  simp only [pick, List.range_succ, List.filter_append, List.map_append]
  congr 1
  by_cases h : p n = true <;> simp [h]
theorem pick_len (p : Nat → Bool) (n : Nat) : (pick p n).length ≤ n := by
  simp only [pick, List.length_map]
  exact Nat.le_trans (List.length_filter_le _ _) (by simp)
def ownB (c : D) (t : Int) (i : Nat) : Bool := ((rlsAt c i).nth 0).int == t
def sRules : Sum := ⟨[configS, i64], fun _ => none, fun
  | [c, t] => .tup [.dat (.slice i64) (.L (if tnErr c t.int ≠ 0 then [] else pick (ownB c t.int) (nR c))), .dat i64 (.I (tnErr c t.int))]
  | _ => .und⟩
def sameL (s : Sh) (a b : List D) : Bool := a.length == b.length && (List.range a.length).all fun j => eqD s (a.getD j .Z) (b.getD j .Z)
theorem sameL_f {s : Sh} {a b : List D} {k : Nat} (hk : k < a.length) (h : eqD s (a.getD k .Z) (b.getD k .Z) = false) : sameL s a b = false := by
  rw [sameL, not_all_range hk h, Bool.and_false]
theorem sameL_t {s : Sh} {a b : List D} (e : a.length = b.length) (h : ∀ k, k < a.length → eqD s (a.getD k .Z) (b.getD k .Z) = true) : sameL s a b = true := by
  rw [sameL, all_range h, e]; simp
def sEq (s : Sh) : Sum := ⟨[.slice s, .slice s], fun _ => none, fun
  | [a, b] => .dat .bool (.B (sameL s a.list b.list))
  | _ => .und⟩
def sameC (a b : D) : Bool := sameL classS (cls a) (cls b) && eqD (.arr 6 tenS) (a.nth 1) (b.nth 1) && sameL ruleS (rls a) (rls b) && (a.nth 3).int == (b.nth 3).int
def sSameC : Sum := ⟨[configS, configS], fun _ => none, fun
  | [a, b] => .dat .bool (.B (sameC a b))
  | _ => .und⟩
def cK3 : Ctx := ⟨tab, refs, [], [], keep, mps⟩
theorem sameInts_ok : SumOK Try.prog 17 sSameI := sumOK_of_vc (c := c0) (ctxOK .nil) mixed Try.func17 rfl (by decide) @sameInts_fun
theorem k2OK : CtxOK Try.prog cK2 := ctxOK (.cons below_ok (.cons check_ok .nil))
end Go.Proofs.Ytpfpgjkbnjnjnaa.Cf

namespace Go.Proofs.Ytpfpgjkbnjnjnaa.Cf
open Go Go.Vm
set_option linter.unusedSimpArgs false
set_option maxRecDepth 10000
/-- The place of a label's class; the place behind them if there is none. -/
def fl (c : D) (L : Int) : Nat := fi (fun k => if labAt c k = L then 1 else 0) (nC c) 0
def clN (c : D) (L : Int) : Int := if chE c ≠ 0 then 0 else if fl c L < nC c then fl c L else 0
def clX (c : D) (L : Int) : Int := if chE c ≠ 0 then chE c else if fl c L < nC c then 0 else 7
def sClassC : Sum := ⟨[configS, u64], fun _ => none, fun
  | [c, l] => .tup [.dat i64 (.I (clN c l.int)), .dat i64 (.I (clX c l.int))]
  | _ => .und⟩
theorem fl_at {c : D} {L : Int} {i : Nat} (hi : i < nC c) (h : labAt c i = L) (h0 : ∀ k, k < i → labAt c k ≠ L) : fl c L = i :=
  fi_0 hi (fun k hk => if_neg (h0 k hk)) (by simp [h])
theorem fl_none {c : D} {L : Int} (h0 : ∀ k, k < nC c → labAt c k ≠ L) : fl c L = nC c := fi_all fun k hk => if_neg (h0 k hk)
theorem lab_inj {c : D} (h : chE c = 0) : ∀ i j, i < j → j < nC c → labAt c i ≠ labAt c j := fun i j hi hj e => by
  have hd := (ch_ok.1 h).2.1 j hj
  by_cases hb : clBad (clsAt c j) = true
  · rw [clE_2 hb] at hd; cases hd
  · rw [clE_8 (by simpa using hb) (List.any_eq_true.2 ⟨i, by simpa using hi, by simpa using e⟩)] at hd; cases hd
theorem mHas_mPut {k v : D} {L : Int} : ∀ {es : List (D × D)}, mHas L (mPut k v es) = (mHas L es || decide (k.int = L))
  | [] => by simp [mPut, mHas]
  | (k', v') :: es => by
    have ih := mHas_mPut (k := k) (v := v) (L := L) (es := es)
    simp only [mPut]
    by_cases h : k'.int = k.int
    · rw [if_pos h]
      simp only [mHas, h]
      cases decide (k.int = L) <;> simp
    · rw [if_neg h]
      simp only [mHas, ih, Bool.or_assoc]
def seeB (c : D) (L : Int) (i : Nat) : Bool := belowB (labAt c i) L
def sSees : Sum := ⟨[configS, u64], fun _ => none, fun
  | [c, l] => .tup [.dat (.slice i64) (.L (if chE c ≠ 0 then [] else pick (seeB c l.int) (nC c))), .dat i64 (.I (chE c))]
  | _ => .und⟩
def ten1 : D := .L [.I 1, .I 1, .I 1, .I 1, .I 1]
def tens : Nat → D
  | 0 => D0 (.arr 6 tenS)
  | n + 1 => D.puts (.arr 6 tenS) (tens n) [.idx n] ten1
def shownC : D := .L [.L [.L [.I 0, .I 4, .I 2], .L [.I 1, .I 8, .I 8], .L [.I 3, .I 1, .I 0]], tens 6, .L [.L [.I 2, .I 3, .I 1, .B true, .I 0, .I (-5), .I 5]], .I 10]
def sShown : Sum := ⟨[], fun _ => none, fun _ => .dat configS shownC⟩
def cAwake : Ctx := ⟨tab, refs, [(41, sCheckC), (17, sSameI)], [], keep, mps⟩
def sTrue : Sum := ⟨[], fun _ => none, fun _ => .dat .bool (.B true)⟩
def cTenants : Ctx := ⟨tab, refs, [(17, sSameI)], [], keep, mps⟩
theorem eqTen (d : D) : eqD tenS d d = true := by simp [eqD, eqDs]
theorem sameI_rfl (l : List D) : sameI l l = true := by
  rw [sameI, all_range (fun k _ => beq_self_eq_true _)]; simp
theorem sameL_rfl {s : Sh} (h : ∀ d, eqD s d d = true) (l : List D) : sameL s l l = true := sameL_t rfl fun _ _ => h _
theorem sameC_rfl (c : D) : sameC c c = true := by
  rw [sameC, sameL_rfl (fun d => by simp [eqD, eqDs]), sameL_rfl (fun d => by simp [eqD, eqDs])]
  simp [eqD, eqDs]
def sLawT : Sum := ⟨[configS, configS, i64], fun _ => none, fun _ => .dat .bool (.B true)⟩
end Go.Proofs.Ytpfpgjkbnjnjnaa.Cf
