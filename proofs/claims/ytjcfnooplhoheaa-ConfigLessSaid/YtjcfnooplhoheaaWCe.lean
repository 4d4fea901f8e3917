/- Accounts of configurations: the program's Check. Accounts of configurations: the reference's Check. Accounts of configurations: what is asked of one. Accounts of configurations: the class of a label, what is seen; the first law. -/
import Derived.Test.YtjcfnooplhoheaaWCa
namespace Go.Proofs.Ytjcfnooplhoheaa
open Go Go.Vm
set_option linter.unusedSimpArgs false
set_option maxRecDepth 10000

def tab : List (Nat × Sh) := [(29, configS), (22, .slice classS), (66, classS), (25, .arr 6 tenS), (24, tenS), (26, .slice ruleS), (82, ruleS),
  (27, u64), (3, i64), (2, i64), (4, .bool), (32, i64), (35, .slice i64), (110, .arr 2 i64), (111, .slice (.arr 2 i64)), (69, .slice u64), (105, .int .u16), (42, ratesS)]
def refs : List (Nat × Value) := [(98, .nilFunc)]
def mps : List (Nat × MI) := [(108, .map u64 .bool), (93, .map u64 i64), (100, .vec)]
def c0 : Ctx := ⟨tab, refs, [], [], keep, mps⟩

def sBelow : Sum := ⟨[u64, u64], fun _ => none, fun
  | [a, b] => .dat .bool (.B (belowB a.int b.int))
  | _ => .und⟩
theorem below_fun : FunOK c0 20 Try.f85 sBelow := fun _ _ _ _ _ => Bears.rfl
theorem belowR_fun : FunOK c0 20 Try.f86 sBelow := fun _ _ _ _ _ => Bears.rfl

/-- The numbers are within their limits. -/
def inL (n l : List D) (i : Nat) : Bool := !out (n.getD i .Z).int ((l.getD i .Z).nth 0).int ((l.getD i .Z).nth 1).int
def withinB (n l : List D) : Bool := (List.range n.length).all (inL n l)
def sWithin : Sum := ⟨[.slice i64, .slice (.arr 2 i64)], fun
  | [n, l] => some (n.list.length ≤ l.list.length)
  | _ => none, fun
  | [n, l] => .dat .bool (.B (withinB n.list l.list))
  | _ => .und⟩
theorem within_fun : FunOK c0 60 Try.f90 sWithin := fun n hn l _ h => by
  simp only [InR] at hn
  replace h : n.list.length ≤ l.list.length := h
  refine ⟨{ i : Nat // i ≤ n.list.length ∧ ∀ k, k < i → inL n.list l.list k = true }, 0, fun i => ([(7, .dat (.slice i64) n), (8, .dat i64 (.I n.list.length)), (9, .dat i64 (.I i.1)), (1, .dat (.slice (.arr 2 i64)) l)], []), fun i => n.list.length - i.1,
    ⟨0, by omega, fun k h => by omega⟩, ⟨[], rfl, ⟨rfl, rfl, rfl, rfl, trivial⟩, trivial⟩, ?_⟩
  intro x
  obtain ⟨i, hi, hp⟩ := x
  have hlt : ltB (i : Int) (n.list.length : Int) = true → i < n.list.length := fun h => by simp only [ltB_true] at h; omega
  have hge : ltB (i : Int) (n.list.length : Int) = false → i = n.list.length := fun h => by simp only [ltB_false] at h; omega
  refine ⟨fun h1 => ⟨?_, ?_, by decide, fun _ => ⟨?_, ?_⟩, fun _ => by decide, fun h2 => Bears.bool ?_, fun h2 => ?_⟩, fun h1 => Bears.bool ?_⟩
  · have := hlt h1; show 0 ≤ (i : Int) ∧ (i : Int) < n.list.length; omega
  · have := hlt h1; show 0 ≤ (i : Int) ∧ (i : Int) < l.list.length; omega
  · show 0 ≤ (i : Int); omega
  · have := hlt h1; show (i : Int) < l.list.length; omega
  · have hk := hlt h1
    replace h2 : (ltB (n.list.getD i .Z).int ((l.list.getD i .Z).nth 0).int || ltB ((l.list.getD i .Z).nth 1).int (n.list.getD i .Z).int) = true := h2
    show false = withinB n.list l.list
    symm
    rw [withinB, List.all_eq_false]
    exact ⟨i, by simpa using hk, by simp only [inL, out, h2]; decide⟩
  · have hk := hlt h1
    replace h2 : (ltB (n.list.getD i .Z).int ((l.list.getD i .Z).nth 0).int || ltB ((l.list.getD i .Z).nth 1).int (n.list.getD i .Z).int) = false := h2
    refine ⟨⟨i + 1, by omega, fun k hk2 => ?_⟩, ⟨[], rfl, ⟨rfl, rfl, slot (i64_1 (n := i) (by omega)), rfl, trivial⟩, trivial⟩, by show _ - (i + 1) < _ - i; omega⟩
    rcases Nat.lt_or_eq_of_le (Nat.le_of_lt_succ hk2) with h | rfl
    · exact hp k h
    · simp only [inL, out, h2]; rfl
  · have hk := hge h1
    show true = withinB n.list l.list
    symm
    rw [withinB, List.all_eq_true]
    intro k hk2
    exact hp k (by simp only [List.mem_range] at hk2; omega)
def sCl : Sum := ⟨[configS], fun _ => none, fun
  | [c] => .fn 89 [.gptr configS c]
  | _ => .und⟩
theorem classes_fun : FunOK c0 20 Try.f79 sCl := fun _ _ _ => ⟨rfl, Bears.rfl, trivial⟩
def sTn : Sum := ⟨[configS], fun _ => none, fun
  | [c] => .fn 91 [.gptr configS c]
  | _ => .und⟩
theorem tenants_fun : FunOK c0 20 Try.f80 sTn := fun _ _ _ => ⟨rfl, Bears.rfl, trivial⟩
def sRu : Sum := ⟨[configS], fun _ => none, fun
  | [c] => .fn 92 [.gptr configS c]
  | _ => .und⟩
theorem rules_fun : FunOK c0 20 Try.f81 sRu := fun _ _ _ => ⟨rfl, Bears.rfl, trivial⟩
noncomputable def cCheck : Ctx := ⟨tab, refs, [(79, sCl), (80, sTn), (81, sRu), (90, sWithin), (85, sBelow)],
  [(89, Try.f89), (91, Try.f91), (92, Try.f92)], keep, mps⟩
theorem mGet_mPut {z k v : D} {L : Int} : ∀ {es : List (D × D)}, mGet z L (mPut k v es) = if k.int = L then v else mGet z L es
  | [] => by simp [mPut, mGet]
  | (k', v') :: es => by
    have ih := mGet_mPut (z := z) (k := k) (v := v) (L := L) (es := es)
    simp only [mPut]
    by_cases h : k'.int = k.int
    · rw [if_pos h]
      simp only [mGet, h]
      split <;> rfl
    · rw [if_neg h]
      simp only [mGet, ih]
      by_cases h2 : k'.int = L
      · have : ¬ k.int = L := by omega
        simp [h2, this]
      · simp [h2]
theorem ft {P : Prop} (h : false = true) : P := by cases h
theorem tf {P : Prop} (h : true = false) : P := by cases h
theorem cl_within (x : D) : withinB [.I (x.nth 1).int, .I (x.nth 2).int] [.L [.I 1, .I 64], .L [.I 0, .I 64]] = !clBad x := by
  simp [withinB, inL, clBad, List.range_succ]
def lims : List D := [.L [.I 1, .I 64], .L [.I 0, .I 4], .L [.I 0, .I 64], .L [.I 0, .I 64], .L [.I 0, .I 64]]
theorem tn_within (x : D) : withinB [.I (x.nth 0).int, .I (x.nth 1).int, .I (x.nth 2).int, .I (x.nth 3).int, .I (x.nth 4).int] lims = !tnBad x := by
  simp [withinB, inL, tnBad, lims, List.range_succ, Bool.and_assoc]
theorem clE_2 {c : D} {i : Nat} (h : clBad (clsAt c i) = true) : clE c i = 2 := by
  show (if clBad (clsAt c i) = true then (2 : Int) else _) = 2
  rw [if_pos h]
theorem clE_8 {c : D} {i : Nat} (h : clBad (clsAt c i) = false) (h2 : ((List.range i).any fun k => labAt c k == labAt c i) = true) : clE c i = 8 := by
  show (if clBad (clsAt c i) = true then (2 : Int) else if ((List.range i).any fun k => labAt c k == labAt c i) = true then 8 else 0) = 8
  rw [if_neg (by rw [h]; decide), if_pos h2]
theorem clE_0 {c : D} {i : Nat} (h : clBad (clsAt c i) = false) (h2 : ((List.range i).any fun k => labAt c k == labAt c i) = false) : clE c i = 0 := by
  show (if clBad (clsAt c i) = true then (2 : Int) else if ((List.range i).any fun k => labAt c k == labAt c i) = true then 8 else 0) = 0
  rw [if_neg (by rw [h]; decide), if_neg (by rw [h2]; decide)]
abbrev fns (c : D) : List HV := [.fn 89 [.gptr configS c], .fn 91 [.gptr configS c], .fn 92 [.gptr configS c]]
theorem check_fun : FunOK cCheck 100 Try.f51 sCheckC := fun c hcr _ => by
  simp only [InR, InRs] at hcr
  have hn0 : nC c ≤ 9223372036854775807 := hcr.1.1
  have hn2 : nR c ≤ 9223372036854775807 := hcr.2.2.1.1
  refine ⟨fun h1 => ⟨Bears.int ?_, Bears.int ?_, trivial⟩, fun h1 => ⟨by show (3 : Nat) ≤ 1000; omega, by kernel_rfl, ?_⟩⟩
  all_goals replace h1 : fullB c = _ := h1
  · exact (ch_full h1).1.symm
  · exact (ch_full h1).2.symm
  refine ⟨{ i : Nat // i ≤ 3 ∧ (1 ≤ i → ∀ k, k < nC c → clE c k = 0) ∧ (2 ≤ i → ∀ k, k < 6 → tnE c k = 0) ∧ (3 ≤ i → ∀ k, k < nR c → ruE c k = 0) }, 21, fun i => ([(26, .dat i64 (.I i.1)), (25, .dat i64 (.I 3)), (24, .own 15 .ref), (3, .ptr 2 i64 [] i64), (2, .ptr 1 i64 [] i64), (1, .ptr 0 configS [] configS)],
    [(15, .vec (fns c)), (2, .box i64 (.dat i64 (.I 0))), (1, .box i64 (.dat i64 (.I 0))), (0, .box configS (.dat configS c))]), fun i => 3 - i.1,
    ⟨0, by omega, fun h => by omega, fun h => by omega, fun h => by omega⟩, ⟨[], rfl, ⟨rfl, rfl, rfl, rfl, rfl, rfl, trivial⟩, ⟨rfl, rfl, rfl, rfl, trivial⟩⟩, ?_⟩
  intro x
  obtain ⟨i, hi, hc, ht, hr⟩ := x
  obtain rfl | rfl | rfl | rfl : i = 0 ∨ i = 1 ∨ i = 2 ∨ i = 3 := by omega
  · refine ⟨fun _ => ⟨by show (0 : Int) ≤ 0 ∧ (0 : Int) < 3; omega, { x : Nat × List (D × D) // x.1 ≤ nC c ∧ (∀ k, k < x.1 → clE c k = 0) ∧ ∀ L, (mGet (.B false) L x.2).bool = (List.range x.1).any fun k => labAt c k == L }, 23,
      fun x => ([(11, .dat i64 (.I x.1.1)), (10, .dat i64 (.I (nC c))), (9, .dat (.slice classS) (c.nth 0)), (3, .mp 22 u64 .bool), (0, .yld 21), (1, .gptr configS c)], [(22, .map u64 .bool x.1.2), (21, .loop .ready), (15, .vec (fns c)), (2, .box i64 (.dat i64 (.I 0))), (1, .box i64 (.dat i64 (.I 0))), (0, .box configS (.dat configS c))]),
      fun x => nC c - x.1.1, ⟨(0, []), by omega, fun k h => by omega, fun L => rfl⟩, ⟨[], rfl, ⟨rfl, rfl, rfl, rfl, rfl, rfl, trivial⟩, ⟨rfl, rfl, rfl, rfl, rfl, rfl, trivial⟩⟩, ?_⟩, fun h1 => tf h1⟩
    intro x
    obtain ⟨⟨i, es⟩, hi, h0, hm⟩ := x
    simp only at hi h0 hm
    have hlt : ltB (i : Int) (nC c : Int) = true → i < nC c := fun h => by simp only [ltB_true] at h; omega
    have hge : ltB (i : Int) (nC c : Int) = false → i = nC c := fun h => by simp only [ltB_false] at h; omega
    refine ⟨fun h1 => ⟨?_, ?_, fun h2 => ⟨fun h3 => ⟨fun h4 => ⟨Bears.int ?_, Bears.int ?_, trivial⟩, fun h4 => tf h4⟩, fun h3 => tf h3⟩, fun h2 => ⟨fun h3 => ⟨fun h4 => ⟨fun h5 => ⟨Bears.int ?_, Bears.int ?_, trivial⟩, fun h5 => tf h5⟩, fun h4 => tf h4⟩, fun h3 => ⟨fun h4 => ft h4, fun h4 => ⟨fun h5 => ft h5, fun h5 => ?_⟩⟩⟩⟩, fun h1 => ?_⟩
    · have := hlt h1; show 0 ≤ (i : Int) ∧ (i : Int) < (nC c : Int); omega
    · exact Nat.le_refl 2
    · replace h2 : (!withinB [.I ((clsAt c i).nth 1).int, .I ((clsAt c i).nth 2).int] [.L [.I 1, .I 64], .L [.I 0, .I 64]]) = true := h2
      rw [cl_within, Bool.not_not] at h2
      have e := clE_2 h2
      show 2 = chE c
      rw [(ch_cls ‹fullB c = false› (hlt h1) h0 (by rw [e]; decide)).1, e]
    · replace h2 : (!withinB [.I ((clsAt c i).nth 1).int, .I ((clsAt c i).nth 2).int] [.L [.I 1, .I 64], .L [.I 0, .I 64]]) = true := h2
      rw [cl_within, Bool.not_not] at h2
      have e := clE_2 h2
      show (i : Int) = chA c
      rw [(ch_cls ‹fullB c = false› (hlt h1) h0 (by rw [e]; decide)).2]
    all_goals try replace h2 : (!withinB [.I ((clsAt c i).nth 1).int, .I ((clsAt c i).nth 2).int] [.L [.I 1, .I 64], .L [.I 0, .I 64]]) = false := h2
    all_goals try rw [cl_within, Bool.not_not] at h2
    all_goals try replace h3 : (mGet (.B false) (labAt c i) es).bool = _ := h3
    all_goals try rw [hm] at h3
    · have e := clE_8 h2 h3
      show 8 = chE c
      rw [(ch_cls ‹fullB c = false› (hlt h1) h0 (by rw [e]; decide)).1, e]
    · have e := clE_8 h2 h3
      show (i : Int) = chA c
      rw [(ch_cls ‹fullB c = false› (hlt h1) h0 (by rw [e]; decide)).2]
    · have hk := hlt h1
      have e := clE_0 h2 h3
      refine ⟨⟨(i + 1, mPut (.I (labAt c i)) (.B true) es), by show i + 1 ≤ _; omega, fun k hk2 => ?_, fun L => ?_⟩, ⟨[], rfl, ⟨slot (i64_1 (n := i) (by omega)), rfl, rfl, rfl, rfl, rfl, trivial⟩, ⟨rfl, rfl, rfl, rfl, rfl, rfl, trivial⟩⟩, by show _ - (i + 1) < _ - i; omega⟩
      · rcases Nat.lt_or_eq_of_le (Nat.le_of_lt_succ hk2) with h | rfl
        · exact h0 k h
        · exact e
      · show (mGet (.B false) L (mPut (.I (labAt c i)) (.B true) es)).bool = (List.range (i + 1)).any fun k => labAt c k == L
        rw [mGet_mPut, List.range_succ, List.any_append, ← hm]
        by_cases hL : labAt c i = L
        · rw [if_pos (show (D.I (labAt c i)).int = L from hL)]; simp [hL]
        · rw [if_neg (show ¬ (D.I (labAt c i)).int = L from hL)]; simp [hL]
    · have e := hge h1
      subst e
      exact ⟨⟨1, by omega, fun _ => h0, fun h => by omega, fun h => by omega⟩, ⟨[], rfl, ⟨rfl, rfl, rfl, rfl, rfl, rfl, trivial⟩, ⟨rfl, rfl, rfl, rfl, trivial⟩⟩, by show 3 - 1 < 3 - 0; omega⟩
  · refine ⟨fun _ => ⟨by show (0 : Int) ≤ 1 ∧ (1 : Int) < 3; omega, { i : Nat // i ≤ 6 ∧ ∀ k, k < i → tnE c k = 0 }, 23,
      fun i => ([(15, .dat i64 (.I i.1)), (14, .dat (.arr 6 tenS) (c.nth 1)), (3, .own 22 (.arr 2 i64)), (0, .yld 21), (1, .gptr configS c)], [(22, .grow (.arr 2 i64) lims), (21, .loop .ready), (15, .vec (fns c)), (2, .box i64 (.dat i64 (.I 0))), (1, .box i64 (.dat i64 (.I 0))), (0, .box configS (.dat configS c))]),
      fun i => 6 - i.1, ⟨0, by omega, fun k h => by omega⟩, ⟨[], rfl, ⟨rfl, rfl, rfl, rfl, rfl, trivial⟩, ⟨rfl, rfl, rfl, rfl, rfl, rfl, trivial⟩⟩, ?_⟩, fun h1 => tf h1⟩
    intro x
    obtain ⟨i, hi, h0⟩ := x
    have hlt : ltB (i : Int) 6 = true → i < 6 := fun h => by simp only [ltB_true] at h; omega
    have hge : ltB (i : Int) 6 = false → i = 6 := fun h => by simp only [ltB_false] at h; omega
    refine ⟨fun h1 => ⟨?_, ?_, fun h2 => ⟨fun h3 => ⟨fun h4 => ⟨Bears.int ?_, Bears.int ?_, trivial⟩, fun h4 => tf h4⟩, fun h3 => tf h3⟩, fun h2 => ⟨fun h3 => ft h3, fun h3 => ⟨fun h4 => ft h4, fun h4 => ?_⟩⟩⟩, fun h1 => ?_⟩
    · have := hlt h1; show 0 ≤ (i : Int) ∧ (i : Int) < ((6 : Nat) : Int); omega
    · exact Nat.le_refl 5
    · replace h2 : (!withinB [.I (((c.nth 1).nth i).nth 0).int, .I (((c.nth 1).nth i).nth 1).int, .I (((c.nth 1).nth i).nth 2).int, .I (((c.nth 1).nth i).nth 3).int, .I (((c.nth 1).nth i).nth 4).int] lims) = true := h2
      rw [tn_within, Bool.not_not] at h2
      have e : tnE c i = 2 := by simp only [tnE, h2, if_true]
      show 2 = chE c
      rw [(ch_ten ‹fullB c = false› (hc (by omega)) (hlt h1) h0 (by rw [e]; decide)).1, e]
    · replace h2 : (!withinB [.I (((c.nth 1).nth i).nth 0).int, .I (((c.nth 1).nth i).nth 1).int, .I (((c.nth 1).nth i).nth 2).int, .I (((c.nth 1).nth i).nth 3).int, .I (((c.nth 1).nth i).nth 4).int] lims) = true := h2
      rw [tn_within, Bool.not_not] at h2
      have e : tnE c i = 2 := by simp only [tnE, h2, if_true]
      show (i : Int) = chA c
      rw [(ch_ten ‹fullB c = false› (hc (by omega)) (hlt h1) h0 (by rw [e]; decide)).2]
    · replace h2 : (!withinB [.I (((c.nth 1).nth i).nth 0).int, .I (((c.nth 1).nth i).nth 1).int, .I (((c.nth 1).nth i).nth 2).int, .I (((c.nth 1).nth i).nth 3).int, .I (((c.nth 1).nth i).nth 4).int] lims) = false := h2
      rw [tn_within, Bool.not_not] at h2
      have e : tnE c i = 0 := by simp only [tnE, h2, Bool.false_eq_true, if_false]
      have hk := hlt h1
      refine ⟨⟨i + 1, by omega, fun k hk2 => ?_⟩, ⟨[], rfl, ⟨slot (i64_1 (n := i) (by omega)), rfl, rfl, rfl, rfl, trivial⟩, ⟨rfl, rfl, rfl, rfl, rfl, rfl, trivial⟩⟩, by show 6 - (i + 1) < 6 - i; omega⟩
      rcases Nat.lt_or_eq_of_le (Nat.le_of_lt_succ hk2) with h | rfl
      · exact h0 k h
      · exact e
    · have e := hge h1
      subst e
      exact ⟨⟨2, by omega, fun _ => hc (by omega), fun _ => h0, fun h => by omega⟩, ⟨[], rfl, ⟨rfl, rfl, rfl, rfl, rfl, rfl, trivial⟩, ⟨rfl, rfl, rfl, rfl, trivial⟩⟩, by show 3 - 2 < 3 - 1; omega⟩
  · refine ⟨fun _ => ⟨by show (0 : Int) ≤ 2 ∧ (2 : Int) < 3; omega, { i : Nat // i ≤ nR c ∧ ∀ k, k < i → ruE c k = 0 }, 22,
      fun i => ([(9, .dat i64 (.I i.1)), (8, .dat i64 (.I (nR c))), (7, .dat (.slice ruleS) (c.nth 2)), (0, .yld 21), (1, .gptr configS c)], [(21, .loop .ready), (15, .vec (fns c)), (2, .box i64 (.dat i64 (.I 0))), (1, .box i64 (.dat i64 (.I 0))), (0, .box configS (.dat configS c))]),
      fun i => nR c - i.1, ⟨0, by omega, fun k h => by omega⟩, ⟨[], rfl, ⟨rfl, rfl, rfl, rfl, rfl, trivial⟩, ⟨rfl, rfl, rfl, rfl, rfl, trivial⟩⟩, ?_⟩, fun h1 => tf h1⟩
    intro x
    obtain ⟨i, hi, h0⟩ := x
    have hlt : ltB (i : Int) (nR c : Int) = true → i < nR c := fun h => by simp only [ltB_true] at h; omega
    have hge : ltB (i : Int) (nR c : Int) = false → i = nR c := fun h => by simp only [ltB_false] at h; omega
    have fin : ∀ n : Int, n ≠ 0 → i < nR c → ruE c i = n → n = chE c ∧ (i : Int) = chA c := fun n hn hk e => by
      have := ch_rul ‹fullB c = false› (hc (by omega)) (ht (by omega)) hk h0 (by rw [e]; exact hn)
      rw [e] at this
      exact ⟨this.1.symm, this.2.symm⟩
    refine ⟨fun h1 => ⟨?_, fun h2 => ⟨fun h3 => ⟨fun h4 => ⟨Bears.int ?_, Bears.int ?_, trivial⟩, fun h4 => tf h4⟩, fun h3 => tf h3⟩, fun h2 => ⟨fun h3 => ⟨fun h4 => ⟨fun h5 => ⟨Bears.int ?_, Bears.int ?_, trivial⟩, fun h5 => tf h5⟩, fun h4 => tf h4⟩, fun h3 => ⟨fun h4 => ⟨fun h5 => ⟨fun h6 => ⟨Bears.int ?_, Bears.int ?_, trivial⟩, fun h6 => tf h6⟩, fun h5 => tf h5⟩, fun h4 => ⟨fun h5 => ft h5, fun h5 => ⟨fun h6 => ft h6, fun h6 => ?_⟩⟩⟩⟩⟩, fun h1 => ?_⟩
    · have := hlt h1; show 0 ≤ (i : Int) ∧ (i : Int) < (nR c : Int); omega
    all_goals try replace h2 : badOwner (rlsAt c i) = _ := h2
    · exact (fin 2 (by decide) (hlt h1) (by simp only [ruE, ruF, h2, if_true])).1
    · exact (fin 2 (by decide) (hlt h1) (by simp only [ruE, ruF, h2, if_true])).2
    all_goals try replace h3 : (!belowB ((rlsAt c i).nth 2).int ((rlsAt c i).nth 1).int) = _ := h3
    all_goals try simp only [Bool.not_eq_true', Bool.not_eq_false'] at h3
    · exact (fin 13 (by decide) (hlt h1) (by simp only [ruE, ruF, h2, h3, Bool.false_eq_true, if_false, if_true])).1
    · exact (fin 13 (by decide) (hlt h1) (by simp only [ruE, ruF, h2, h3, Bool.false_eq_true, if_false, if_true])).2
    all_goals try replace h4 : ltB ((rlsAt c i).nth 6).int ((rlsAt c i).nth 5).int = _ := h4
    all_goals try simp only [ltB_true, ltB_false] at h4
    · exact (fin 9 (by decide) (hlt h1) (by simp only [ruE, ruF, h2, h3, Bool.false_eq_true, Bool.true_eq_false, if_false]; rw [if_pos (by omega)])).1
    · exact (fin 9 (by decide) (hlt h1) (by simp only [ruE, ruF, h2, h3, Bool.false_eq_true, Bool.true_eq_false, if_false]; rw [if_pos (by omega)])).2
    · have e : ruE c i = 0 := by simp only [ruE, ruF, h2, h3, Bool.false_eq_true, Bool.true_eq_false, if_false]; rw [if_neg (by omega)]
      have hk := hlt h1
      refine ⟨⟨i + 1, by omega, fun k hk2 => ?_⟩, ⟨[], rfl, ⟨slot (i64_1 (n := i) (by omega)), rfl, rfl, rfl, rfl, trivial⟩, ⟨rfl, rfl, rfl, rfl, rfl, trivial⟩⟩, by show _ - (i + 1) < _ - i; omega⟩
      rcases Nat.lt_or_eq_of_le (Nat.le_of_lt_succ hk2) with h | rfl
      · exact h0 k h
      · exact e
    · have e := hge h1
      subst e
      exact ⟨⟨3, by omega, fun _ => hc (by omega), fun _ => ht (by omega), fun _ => h0⟩, ⟨[], rfl, ⟨rfl, rfl, rfl, rfl, rfl, rfl, trivial⟩, ⟨rfl, rfl, rfl, rfl, trivial⟩⟩, by show 3 - 3 < 3 - 2; omega⟩
  · refine ⟨fun h1 => ft h1, fun h1 => ⟨fun h2 => ⟨Bears.int ?_, Bears.int ?_, trivial⟩, fun h2 => ⟨Bears.int ?_, Bears.int ?_, trivial⟩⟩⟩
    all_goals have hh := ch_hor ‹fullB c = false› (hc (by omega)) (ht (by omega)) (hr (by omega))
    all_goals replace h2 : horBad c = _ := h2
    all_goals rw [h2] at hh
    · exact hh.1.symm
    · exact hh.2.symm
    · exact hh.1.symm
    · exact hh.2.symm
end Go.Proofs.Ytjcfnooplhoheaa

namespace Go.Proofs.Ytjcfnooplhoheaa
open Go Go.Vm
set_option linter.unusedSimpArgs false
set_option maxRecDepth 10000
def inB (n a b : Int) : Bool := leB a n && leB n b
theorem inB_out (n a b : Int) : inB n a b = !out n a b := by
  simp only [inB, out, leB, ltB, Bool.not_or]
  congr 1 <;> (rw [← decide_not]; congr 1; simp)
def sFrom : Sum := ⟨[i64, i64, i64], fun _ => none, fun
  | [n, a, b] => .dat .bool (.B (inB n.int a.int b.int))
  | _ => .und⟩
theorem from_fun : FunOK c0 20 Try.f69 sFrom := fun _ _ _ _ _ _ _ => Bears.rfl
def cR1 : Ctx := ⟨tab, refs, [(69, sFrom), (86, sBelow)], [], keep, mps⟩
def sTen : Sum := ⟨[tenS], fun _ => none, fun
  | [t] => .dat .bool (.B (!tnBad t))
  | _ => .und⟩
theorem tenant_fun : FunOK cR1 30 Try.f83 sTen := fun t _ _ => by
  refine Bears.bool ?_
  show (inB (t.nth 0).int 1 64 && inB (t.nth 1).int 0 4 && inB (t.nth 2).int 0 64 && inB (t.nth 3).int 0 64 && inB (t.nth 4).int 0 64) = !tnBad t
  simp only [inB_out, tnBad, Bool.not_or]
def sRule : Sum := ⟨[ruleS], fun _ => none, fun
  | [r] => .dat i64 (.I (ruF r))
  | _ => .und⟩
theorem rule_fun : FunOK cR1 40 Try.f84 sRule := fun r _ _ => by
  have hb : (!inB (r.nth 0).int 1 6 || !inB (r.nth 4).int 0 25 || ((r.nth 3).bool && (r.nth 4).int != 0)) = badOwner r := by
    simp only [inB_out, out, badOwner, Bool.not_not, Bool.or_assoc]
  refine ⟨fun h1 => Bears.int ?_, fun h1 => ⟨fun h2 => Bears.int ?_, fun h2 => ⟨fun h3 => Bears.int ?_, fun h3 => Bears.int ?_⟩⟩⟩
  all_goals replace h1 : (!inB (r.nth 0).int 1 6 || !inB (r.nth 4).int 0 25 || ((r.nth 3).bool && (r.nth 4).int != 0)) = _ := h1
  all_goals rw [hb] at h1
  · show 2 = ruF r
    simp only [ruF, h1, if_true]
  all_goals replace h2 : (!belowB (r.nth 2).int (r.nth 1).int) = _ := h2
  all_goals simp only [Bool.not_eq_true', Bool.not_eq_false'] at h2
  · show 13 = ruF r
    simp only [ruF, h1, h2, Bool.false_eq_true, if_false, if_true]
  all_goals replace h3 : ltB (r.nth 6).int (r.nth 5).int = _ := h3
  all_goals simp only [ltB_true, ltB_false] at h3
  · show 9 = ruF r
    simp only [ruF, h1, h2, Bool.false_eq_true, Bool.true_eq_false, if_false]; rw [if_pos (by omega)]
  · show 0 = ruF r
    simp only [ruF, h1, h2, Bool.false_eq_true, Bool.true_eq_false, if_false]; rw [if_neg (by omega)]
def sClass : Sum := ⟨[.slice classS, i64], fun
  | [l, i] => some (0 ≤ i.int ∧ i.int < l.list.length)
  | _ => none, fun
  | [l, i] => .dat i64 (.I (clEL l.list i.int.toNat))
  | _ => .und⟩
theorem class_fun : FunOK cR1 60 Try.f82 sClass := fun l hl i hi h => by
  replace h : 0 ≤ i.int ∧ i.int < l.list.length := h
  simp only [InR] at hl
  have hl0 := hl.1
  clear hl
  have hb : (!inB ((l.list.getD i.int.toNat .Z).nth 1).int 1 64 || !inB ((l.list.getD i.int.toNat .Z).nth 2).int 0 64) = clBad (l.list.getD i.int.toNat .Z) := by
    simp only [inB_out, clBad, Bool.not_not]
  refine ⟨h, fun _ => h, fun h1 => Bears.int ?_, fun h1 => ?_⟩
  all_goals replace h1 : (!inB ((l.list.getD i.int.toNat .Z).nth 1).int 1 64 || !inB ((l.list.getD i.int.toNat .Z).nth 2).int 0 64) = _ := h1
  all_goals rw [hb] at h1
  · show 2 = clEL l.list i.int.toNat
    simp only [clEL, h1, if_true]
  refine ⟨{ k : Nat // k ≤ i.int.toNat ∧ ∀ j, j < k → (labL l.list j == labL l.list i.int.toNat) = false }, 0, fun k => ([(5, .dat i64 (.I k.1)), (0, .dat (.slice classS) l), (1, .dat i64 (.I i.int))], []), fun k => i.int.toNat - k.1,
    ⟨0, by omega, fun j h => by omega⟩, ⟨[], rfl, ⟨rfl, rfl, rfl, trivial⟩, trivial⟩, ?_⟩
  intro x
  obtain ⟨k, hk, h0⟩ := x
  have hlt : ltB (k : Int) i.int = true → k < i.int.toNat := fun h => by simp only [ltB_true] at h; omega
  have hge : ltB (k : Int) i.int = false → k = i.int.toNat := fun h => by simp only [ltB_false] at h; omega
  refine ⟨fun h1 => ⟨?_, h, by kernel_rfl, fun h2 => Bears.int ?_, fun h2 => ?_⟩, fun h1 => Bears.int ?_⟩
  · have := hlt h1; show 0 ≤ (k : Int) ∧ (k : Int) < l.list.length; omega
  · replace h2 : (labL l.list k == labL l.list i.int.toNat) = true := h2
    have hd : dupL l.list i.int.toNat = true := by
      simp only [dupL, List.any_eq_true, List.mem_range]
      exact ⟨k, hlt h1, h2⟩
    show 8 = clEL l.list i.int.toNat
    simp only [clEL, ‹clBad (l.list.getD i.int.toNat .Z) = false›, hd, Bool.false_eq_true, if_false, if_true]
  · replace h2 : (labL l.list k == labL l.list i.int.toNat) = false := h2
    have hk2 := hlt h1
    refine ⟨⟨k + 1, by omega, fun j hj => ?_⟩, ⟨[], rfl, ⟨slot (i64_1 (n := k) (by omega)), rfl, rfl, trivial⟩, trivial⟩, by show _ - (k + 1) < _ - k; omega⟩
    rcases Nat.lt_or_eq_of_le (Nat.le_of_lt_succ hj) with h | rfl
    · exact h0 j h
    · exact h2
  · have e := hge h1
    have hd : dupL l.list i.int.toNat = false := by
      simp only [dupL, List.any_eq_false, List.mem_range, Bool.not_eq_true]
      intro j hj
      exact h0 j (by omega)
    show 0 = clEL l.list i.int.toNat
    simp only [clEL, ‹clBad (l.list.getD i.int.toNat .Z) = false›, hd, Bool.false_eq_true, if_false]
def cR2 : Ctx := ⟨tab, refs, [(82, sClass), (83, sTen), (84, sRule)], [], keep, mps⟩
theorem checkR_fun : FunOK cR2 80 Try.f52 sCheckC := fun c hcr _ => by
  simp only [InR, InRs] at hcr
  have hn0 : nC c ≤ 9223372036854775807 := hcr.1.1
  have hn2 : nR c ≤ 9223372036854775807 := hcr.2.2.1.1
  clear hcr
  refine ⟨fun h1 => ⟨Bears.int ?_, Bears.int ?_, trivial⟩, fun h1 => ?_⟩
  all_goals replace h1 : fullB c = _ := h1
  · exact (ch_full h1).1.symm
  · exact (ch_full h1).2.symm
  refine ⟨{ i : Nat // i ≤ nC c ∧ ∀ k, k < i → clE c k = 0 }, 1, fun i => ([(4, .dat i64 (.I i.1)), (1, .ptr 0 configS [] configS)], [(0, .box configS (.dat configS c))]), fun i => nC c - i.1,
    ⟨0, by omega, fun k h => by omega⟩, ⟨[], rfl, ⟨rfl, rfl, trivial⟩, ⟨rfl, trivial⟩⟩, ?_⟩
  intro x
  obtain ⟨i, hi, h0⟩ := x
  have hlt : ltB (i : Int) (nC c : Int) = true → i < nC c := fun h => by simp only [ltB_true] at h; omega
  have hge : ltB (i : Int) (nC c : Int) = false → i = nC c := fun h => by simp only [ltB_false] at h; omega
  refine ⟨fun h1 => ⟨?_, fun h2 => ⟨Bears.int ?_, Bears.int ?_, trivial⟩, fun h2 => ?_⟩, fun h1 => ?_⟩
  · have := hlt h1; show 0 ≤ (i : Int) ∧ (i : Int) < (nC c : Int); omega
  all_goals try replace h2 : (clE c i != 0) = _ := h2
  all_goals try simp only [bne_iff_ne, ne_eq, bne_eq_false_iff_eq] at h2
  · exact (ch_cls ‹fullB c = false› (hlt h1) h0 h2).1.symm
  · exact (ch_cls ‹fullB c = false› (hlt h1) h0 h2).2.symm
  · have hk := hlt h1
    refine ⟨⟨i + 1, by omega, fun k hk2 => ?_⟩, ⟨[], rfl, ⟨slot (i64_1 (n := i) (by omega)), rfl, trivial⟩, ⟨rfl, trivial⟩⟩, by show _ - (i + 1) < _ - i; omega⟩
    rcases Nat.lt_or_eq_of_le (Nat.le_of_lt_succ hk2) with h | rfl
    · exact h0 k h
    · exact h2
  have e := hge h1
  subst e
  clear h1 hlt hge
  refine ⟨{ i : Nat // i ≤ 6 ∧ ∀ k, k < i → tnE c k = 0 }, 1, fun i => ([(6, .dat i64 (.I i.1)), (1, .ptr 0 configS [] configS)], [(0, .box configS (.dat configS c))]), fun i => 6 - i.1,
    ⟨0, by omega, fun k h => by omega⟩, ⟨[], rfl, ⟨rfl, rfl, trivial⟩, ⟨rfl, trivial⟩⟩, ?_⟩
  intro x
  obtain ⟨i, hi, h6⟩ := x
  have hlt : ltB (i : Int) 6 = true → i < 6 := fun h => by simp only [ltB_true] at h; omega
  have hge : ltB (i : Int) 6 = false → i = 6 := fun h => by simp only [ltB_false] at h; omega
  refine ⟨fun h1 => ⟨?_, fun h2 => ⟨Bears.int ?_, Bears.int ?_, trivial⟩, fun h2 => ?_⟩, fun h1 => ?_⟩
  · have := hlt h1; show 0 ≤ (i : Int) ∧ (i : Int) < ((6 : Nat) : Int); omega
  all_goals try replace h2 : (!!tnBad ((c.nth 1).nth i)) = _ := h2
  all_goals try rw [Bool.not_not] at h2
  · have e : tnE c i = 2 := by simp only [tnE, h2, if_true]
    show 2 = chE c
    rw [(ch_ten ‹fullB c = false› h0 (hlt h1) h6 (by rw [e]; decide)).1, e]
  · have e : tnE c i = 2 := by simp only [tnE, h2, if_true]
    show (i : Int) = chA c
    rw [(ch_ten ‹fullB c = false› h0 (hlt h1) h6 (by rw [e]; decide)).2]
  · have hk := hlt h1
    have e : tnE c i = 0 := by simp only [tnE, h2, Bool.false_eq_true, if_false]
    refine ⟨⟨i + 1, by omega, fun k hk2 => ?_⟩, ⟨[], rfl, ⟨slot (i64_1 (n := i) (by omega)), rfl, trivial⟩, ⟨rfl, trivial⟩⟩, by show 6 - (i + 1) < 6 - i; omega⟩
    rcases Nat.lt_or_eq_of_le (Nat.le_of_lt_succ hk2) with h | rfl
    · exact h6 k h
    · exact e
  have e := hge h1
  subst e
  clear h1 hlt hge
  refine ⟨{ i : Nat // i ≤ nR c ∧ ∀ k, k < i → ruE c k = 0 }, 1, fun i => ([(7, .dat i64 (.I i.1)), (1, .ptr 0 configS [] configS)], [(0, .box configS (.dat configS c))]), fun i => nR c - i.1,
    ⟨0, by omega, fun k h => by omega⟩, ⟨[], rfl, ⟨rfl, rfl, trivial⟩, ⟨rfl, trivial⟩⟩, ?_⟩
  intro x
  obtain ⟨i, hi, h7⟩ := x
  have hlt : ltB (i : Int) (nR c : Int) = true → i < nR c := fun h => by simp only [ltB_true] at h; omega
  have hge : ltB (i : Int) (nR c : Int) = false → i = nR c := fun h => by simp only [ltB_false] at h; omega
  refine ⟨fun h1 => ⟨?_, fun h2 => ⟨Bears.int ?_, Bears.int ?_, trivial⟩, fun h2 => ?_⟩, fun h1 => ⟨fun h2 => ⟨Bears.int ?_, Bears.int ?_, trivial⟩, fun h2 => ⟨Bears.int ?_, Bears.int ?_, trivial⟩⟩⟩
  · have := hlt h1; show 0 ≤ (i : Int) ∧ (i : Int) < (nR c : Int); omega
  · replace h2 : (ruE c i != 0) = true := h2
    simp only [bne_iff_ne, ne_eq] at h2
    exact (ch_rul ‹fullB c = false› h0 h6 (hlt h1) h7 h2).1.symm
  · replace h2 : (ruE c i != 0) = true := h2
    simp only [bne_iff_ne, ne_eq] at h2
    exact (ch_rul ‹fullB c = false› h0 h6 (hlt h1) h7 h2).2.symm
  · replace h2 : (ruE c i != 0) = false := h2
    simp only [bne_eq_false_iff_eq] at h2
    have hk := hlt h1
    refine ⟨⟨i + 1, by omega, fun k hk2 => ?_⟩, ⟨[], rfl, ⟨slot (i64_1 (n := i) (by omega)), rfl, trivial⟩, ⟨rfl, trivial⟩⟩, by show _ - (i + 1) < _ - i; omega⟩
    rcases Nat.lt_or_eq_of_le (Nat.le_of_lt_succ hk2) with h | rfl
    · exact h7 k h
    · exact h2
  all_goals have e := hge h1
  all_goals subst e
  all_goals have hh := ch_hor ‹fullB c = false› h0 h6 h7
  all_goals replace h2 : horBad c = _ := h2
  all_goals rw [h2] at hh
  · exact hh.1.symm
  · exact hh.2.symm
  · exact hh.1.symm
  · exact hh.2.symm
theorem mixed : Try.prog.follows .mixedOrders = true := by kernel_rfl
theorem tabOK : tabB Try.prog tab = true := by kernel_rfl
theorem refsOK : refsB Try.prog refs = true := by kernel_rfl
theorem mpsOK : mapsB Try.prog mps = true := by kernel_rfl
theorem ctxOK {l : List (Nat × Sum)} (h : SumsOK Try.prog l) : CtxOK Try.prog ⟨tab, refs, l, [], keep, mps⟩ := CtxOK.of tabOK refsOK h FunsOK.nil mpsOK
theorem below_ok : SumOK Try.prog 85 sBelow := sumOK_of_vc (c := c0) (ctxOK .nil) mixed Try.func85 rfl (by decide) @below_fun
theorem belowR_ok : SumOK Try.prog 86 sBelow := sumOK_of_vc (c := c0) (ctxOK .nil) mixed Try.func86 rfl (by decide) @belowR_fun
theorem within_ok : SumOK Try.prog 90 sWithin := sumOK_of_vc (c := c0) (ctxOK .nil) mixed Try.func90 rfl (by decide) @within_fun
theorem classes_ok : SumOK Try.prog 79 sCl := sumOK_of_vc (c := c0) (ctxOK .nil) mixed Try.func79 rfl (by decide) @classes_fun
theorem tenants_ok : SumOK Try.prog 80 sTn := sumOK_of_vc (c := c0) (ctxOK .nil) mixed Try.func80 rfl (by decide) @tenants_fun
theorem rules_ok : SumOK Try.prog 81 sRu := sumOK_of_vc (c := c0) (ctxOK .nil) mixed Try.func81 rfl (by decide) @rules_fun
theorem check_ok : SumOK Try.prog 51 sCheckC := sumOK_of_vc (c := cCheck) (CtxOK.of tabOK refsOK (.cons classes_ok (.cons tenants_ok (.cons rules_ok (.cons within_ok (.cons below_ok .nil)))))
  (.cons Try.func89 rfl (by decide) (.cons Try.func91 rfl (by decide) (.cons Try.func92 rfl (by decide) .nil))) mpsOK) mixed Try.func51 rfl (by decide) @check_fun
theorem from_ok : SumOK Try.prog 69 sFrom := sumOK_of_vc (c := c0) (ctxOK .nil) mixed Try.func69 rfl (by decide) @from_fun
theorem tenant_ok : SumOK Try.prog 83 sTen := sumOK_of_vc (c := cR1) (ctxOK (.cons from_ok (.cons belowR_ok .nil))) mixed Try.func83 rfl (by decide) @tenant_fun
theorem rule_ok : SumOK Try.prog 84 sRule := sumOK_of_vc (c := cR1) (ctxOK (.cons from_ok (.cons belowR_ok .nil))) mixed Try.func84 rfl (by decide) @rule_fun
theorem class_ok : SumOK Try.prog 82 sClass := sumOK_of_vc (c := cR1) (ctxOK (.cons from_ok (.cons belowR_ok .nil))) mixed Try.func82 rfl (by decide) @class_fun
theorem checkR_ok : SumOK Try.prog 52 sCheckC := sumOK_of_vc (c := cR2) (ctxOK (.cons class_ok (.cons tenant_ok (.cons rule_ok .nil)))) mixed Try.func52 rfl (by decide) @checkR_fun
end Go.Proofs.Ytjcfnooplhoheaa

namespace Go.Proofs.Ytjcfnooplhoheaa
open Go Go.Vm
set_option linter.unusedSimpArgs false
set_option maxRecDepth 10000
theorem eqSame {s : Sh} {a b : D} (h : a = b) : Same s a b := h ▸ Same.rfl
theorem all_range {n : Nat} {p : Nat → Bool} (h : ∀ k, k < n → p k = true) : (List.range n).all p = true := by
  rw [List.all_eq_true]; intro k hk; exact h k (by simpa using hk)
theorem not_all_range {n k : Nat} {p : Nat → Bool} (hk : k < n) (h : p k = false) : (List.range n).all p = false := by
  rw [List.all_eq_false]; exact ⟨k, by simpa using hk, by simp [h]⟩
theorem upto {p : Nat → Prop} {i : Nat} (h : ∀ k, k < i → p k) (hi : p i) : ∀ k, k < i + 1 → p k := fun k hk => by
  rcases Nat.lt_or_eq_of_le (Nat.le_of_lt_succ hk) with h1 | rfl
  · exact h k h1
  · exact hi
theorem ltN {i n : Nat} (h : ltB (i : Int) (n : Int) = true) : i < n := by simp only [ltB_true] at h; omega
theorem geN {i n : Nat} (hi : i ≤ n) (h : ltB (i : Int) (n : Int) = false) : i = n := by simp only [ltB_false] at h; omega
def cK : Ctx := ⟨tab, refs, [(51, sCheckC), (52, sCheckC), (85, sBelow), (86, sBelow), (69, sFrom)], [], keep, mps⟩
def sLight : Sum := ⟨[configS], fun _ => none, fun
  | [c] => .dat .bool (.B (leB (nC c) 12 && leB (nR c) 12))
  | _ => .und⟩
theorem light_fun : FunOK c0 20 Try.f14 sLight := fun _ _ _ => Bears.rfl
theorem lightK_fun : FunOK c0 20 Try.f72 sLight := fun _ _ _ => Bears.rfl
def sameI (a b : List D) : Bool := a.length == b.length && (List.range a.length).all fun j => (a.getD j .Z).int == (b.getD j .Z).int
def sSameI : Sum := ⟨[.slice i64, .slice i64], fun _ => none, fun
  | [a, b] => .dat .bool (.B (sameI a.list b.list))
  | _ => .und⟩
theorem sameInts_fun : FunOK c0 60 Try.f20 sSameI := fun a ha b hb _ => by
  simp only [InR] at ha hb
  have ha := ha.1
  have hb := hb.1
  refine ⟨fun h1 => Bears.bool ?_, fun h1 => ?_⟩
  all_goals replace h1 : ((a.list.length : Int) != (b.list.length : Int)) = _ := h1
  · show false = sameI a.list b.list
    simp only [bne_iff_ne, ne_eq, Int.natCast_inj] at h1
    simp only [sameI, beq_eq_false_iff_ne.mpr h1, Bool.false_and]
  simp only [bne_eq_false_iff_eq, Int.natCast_inj] at h1
  refine ⟨{ i : Nat // i ≤ a.list.length ∧ ∀ k, k < i → ((a.list.getD k .Z).int == (b.list.getD k .Z).int) = true }, 0, fun i => ([(5, .dat i64 (.I i.1)), (0, .dat (.slice i64) a), (1, .dat (.slice i64) b)], []), fun i => a.list.length - i.1,
    ⟨0, by omega, fun k h => by omega⟩, ⟨[], rfl, ⟨rfl, rfl, rfl, trivial⟩, trivial⟩, ?_⟩
  intro x
  obtain ⟨i, hi, h0⟩ := x
  have hlt : ltB (i : Int) (a.list.length : Int) = true → i < a.list.length := ltN
  have hge : ltB (i : Int) (a.list.length : Int) = false → i = a.list.length := geN hi
  refine ⟨fun h2 => ⟨?_, ?_, by kernel_rfl, fun h3 => Bears.bool ?_, fun h3 => ?_⟩, fun h2 => Bears.bool ?_⟩
  · have := hlt h2; show 0 ≤ (i : Int) ∧ (i : Int) < (a.list.length : Int); omega
  · have := hlt h2; show 0 ≤ (i : Int) ∧ (i : Int) < (b.list.length : Int); omega
  · replace h3 : ((a.list.getD i .Z).int != (b.list.getD i .Z).int) = true := h3
    show false = sameI a.list b.list
    rw [sameI, not_all_range (hlt h2) (by simpa [bne] using h3), Bool.and_false]
  · replace h3 : ((a.list.getD i .Z).int != (b.list.getD i .Z).int) = false := h3
    have := hlt h2
    exact ⟨⟨i + 1, by omega, upto h0 (by simpa [bne] using h3)⟩, ⟨[], rfl, ⟨slot (i64_1 (n := i) (by omega)), rfl, rfl, trivial⟩, trivial⟩, by show _ - (i + 1) < _ - i; omega⟩
  · have e := hge h2
    show true = sameI a.list b.list
    rw [sameI, all_range (fun k hk => h0 k (by omega)), h1]; simp
def sOkR : Sum := ⟨[configS], fun _ => none, fun
  | [c] => .dat i64 (.I (chE c))
  | _ => .und⟩
theorem ok_fun : FunOK cK 20 Try.f68 sOkR := fun _ _ _ => Bears.int rfl
def tnErr (c : D) (t : Int) : Int := if chE c ≠ 0 then chE c else if out t 1 6 = true then 2 else 0
theorem tnErr_0 {c : D} {t : Int} (h : tnErr c t = 0) : chE c = 0 := by
  by_cases h1 : chE c = 0
  · exact h1
  · rw [tnErr, if_pos h1] at h; exact h
theorem nR_le {c : D} (h : chE c = 0) : nR c ≤ 8 := by
  have := (ch_ok.1 h).1
  simp only [fullB, Bool.or_eq_false_iff, ltB_false] at this
  omega
theorem nC_le {c : D} (h : chE c = 0) : nC c ≤ 8 := by
  have := (ch_ok.1 h).1
  simp only [fullB, Bool.or_eq_false_iff, ltB_false] at this
  omega
def tnGet (c : D) (t : Int) : D := if tnErr c t ≠ 0 then D0 tenS else (c.nth 1).nth (t - 1).toNat
def sTenant : Sum := ⟨[configS, i64], fun _ => none, fun
  | [c, t] => .tup [.dat tenS (tnGet c t.int), .dat i64 (.I (tnErr c t.int))]
  | _ => .und⟩
theorem Tenant_fun : FunOK cK 40 Try.f16 sTenant := fun c _ t ht _ => by
  simp only [InR, InRs] at ht
  refine ⟨fun h1 => ⟨Bears.same ?_, Bears.int ?_, trivial⟩, fun h1 => ⟨fun h2 => ⟨Bears.same ?_, Bears.int ?_, trivial⟩, fun h2 => ⟨?_, Bears.same ?_, Bears.int ?_, trivial⟩⟩⟩
  all_goals replace h1 : (chE c != 0) = _ := h1
  all_goals try replace h2 : out t.int 1 6 = _ := h2
  all_goals simp only [bne_iff_ne, ne_eq, bne_eq_false_iff_eq] at h1
  all_goals first | have e : tnErr c t.int = chE c := (if_pos h1) | have e : tnErr c t.int = 2 := (by rw [tnErr, if_neg (by simp [h1]), if_pos h2]) | have e : tnErr c t.int = 0 := (by rw [tnErr, if_neg (by simp [h1]), if_neg (by simp [h2])])
  · refine eqSame ?_
    show D0 tenS = tnGet c t.int
    rw [tnGet, if_pos (by rw [e]; exact h1)]
  · exact e.symm
  · refine eqSame ?_
    show D0 tenS = tnGet c t.int
    rw [tnGet, if_pos (by rw [e]; decide)]
  · exact e.symm
  · rw [out, Bool.or_eq_false_iff] at h2
    simp only [ltB_false] at h2
    show 0 ≤ IntKind.wrap .i64 (t.int - 1) ∧ IntKind.wrap .i64 (t.int - 1) < ((6 : Nat) : Int)
    rw [wrap_i64 (by omega) (by omega)]; omega
  · rw [out, Bool.or_eq_false_iff] at h2
    simp only [ltB_false] at h2
    refine eqSame ?_
    show (c.nth 1).nth (IntKind.wrap .i64 (t.int - 1)).toNat = tnGet c t.int
    rw [tnGet, if_neg (by simp [e]), wrap_i64 (by omega) (by omega)]
  · exact e.symm
def cK2 : Ctx := ⟨tab, refs, [(68, sOkR), (16, sTenant), (17, sTenant), (85, sBelow), (86, sBelow), (69, sFrom), (51, sCheckC)], [], keep, mps⟩
def cT : Ctx := ⟨tab, refs, [(68, sOkR), (69, sFrom)], [], keep, mps⟩
theorem TenantR_fun : FunOK cT 40 Try.f17 sTenant := fun c _ t ht _ => by
  simp only [InR, InRs] at ht
  refine ⟨fun h1 => ⟨fun h2 => ⟨Bears.same ?_, Bears.int ?_, trivial⟩, fun h2 => tf h2⟩, fun h1 => ⟨fun h2 => ⟨Bears.same ?_, Bears.int ?_, trivial⟩, fun h2 => ⟨?_, Bears.same ?_, Bears.int ?_, trivial⟩⟩⟩
  all_goals replace h1 : (chE c == 0 && !inB t.int 1 6) = _ := h1
  all_goals try replace h2 : (chE c != 0) = _ := h2
  all_goals rw [inB_out, Bool.not_not] at h1
  all_goals try simp only [bne_iff_ne, ne_eq, bne_eq_false_iff_eq] at h2
  · simp only [Bool.and_eq_true, beq_iff_eq] at h1
    refine eqSame ?_
    show D0 tenS = tnGet c t.int
    rw [tnGet, if_pos (by rw [tnErr, if_neg (by simp [h1.1]), if_pos h1.2]; decide)]
  · simp only [Bool.and_eq_true, beq_iff_eq] at h1
    show 2 = tnErr c t.int
    rw [tnErr, if_neg (by simp [h1.1]), if_pos h1.2]
  · refine eqSame ?_
    show D0 tenS = tnGet c t.int
    rw [tnGet, if_pos (by rw [tnErr, if_pos h2]; exact h2)]
  · show chE c = tnErr c t.int
    rw [tnErr, if_pos h2]
  all_goals simp [h2] at h1
  all_goals have e : tnErr c t.int = 0 := by rw [tnErr, if_neg (by simp [h2]), if_neg (by simp [h1])]
  all_goals rw [out, Bool.or_eq_false_iff] at h1
  all_goals simp only [ltB_false] at h1
  · show 0 ≤ IntKind.wrap .i64 (t.int - 1) ∧ IntKind.wrap .i64 (t.int - 1) < ((6 : Nat) : Int)
    rw [wrap_i64 (by omega) (by omega)]; omega
  · refine eqSame ?_
    show (c.nth 1).nth (IntKind.wrap .i64 (t.int - 1)).toNat = tnGet c t.int
    rw [tnGet, if_neg (by simp [e]), wrap_i64 (by omega) (by omega)]
  · exact e.symm
/-- The numbers, of those below n, with a property. -/
def pick (p : Nat → Bool) (n : Nat) : List D := ((List.range n).filter p).map fun (i : Nat) => D.I (i : Int)
theorem pick_succ (p : Nat → Bool) (n : Nat) : pick p (n + 1) = pick p n ++ if p n = true then [.I n] else [] := by
  simp only [pick, List.range_succ, List.filter_append, List.map_append]
  congr 1
  by_cases h : p n = true <;> simp [h]
theorem pick_len (p : Nat → Bool) (n : Nat) : (pick p n).length ≤ n := by
  simp only [pick, List.length_map]
  exact Nat.le_trans (List.length_filter_le _ _) (by simp)
def ownB (c : D) (t : Int) (i : Nat) : Bool := ((rlsAt c i).nth 0).int == t
def sRules : Sum := ⟨[configS, i64], fun _ => none, fun
  | [c, t] => .tup [.dat (.slice i64) (.L (if tnErr c t.int ≠ 0 then [] else pick (ownB c t.int) (nR c))), .dat i64 (.I (tnErr c t.int))]
  | _ => .und⟩
theorem Rules_fun : FunOK cK2 60 Try.f18 sRules := fun c _ t ht _ => by
  simp only [InR, InRs] at ht
  refine ⟨fun h1 => ⟨Bears.same ?_, Bears.int rfl, trivial⟩, fun h1 => ?_⟩
  all_goals replace h1 : (tnErr c t.int != 0) = _ := h1
  · refine eqSame ?_
    show D.L [] = D.L (if tnErr c t.int ≠ 0 then [] else pick (ownB c t.int) (nR c))
    rw [if_pos (by simpa using h1)]
  simp only [bne_eq_false_iff_eq] at h1
  refine ⟨{ i : Nat // i ≤ nR c }, 5, fun i => ([(23, .dat i64 (.I i.1)), (22, .dat i64 (.I (nR c))), (21, .dat (.slice ruleS) (c.nth 2)), (8, .own 4 i64), (7, .dat i64 (.I (tnErr c t.int))), (0, .dat configS c), (1, .dat i64 (.I t.int))], [(4, .grow i64 (pick (ownB c t.int) i.1))]), fun i => nR c - i.1,
    ⟨0, by omega⟩, ⟨[(4, 3)], rfl, ⟨rfl, rfl, rfl, rfl, rfl, rfl, rfl, trivial⟩, ⟨rfl, trivial⟩⟩, ?_⟩
  intro x
  obtain ⟨i, hi⟩ := x
  have hlt : ltB (i : Int) (nR c : Int) = true → i < nR c := ltN
  have hge : ltB (i : Int) (nR c : Int) = false → i = nR c := geN hi
  have h8 : nR c ≤ 8 := nR_le (tnErr_0 h1)
  refine ⟨fun h3 => ⟨?_, fun h2 => ⟨?_, ?_⟩, fun h2 => ?_⟩, fun h3 => ⟨Bears.same ?_, Bears.int ?_, trivial⟩⟩
  · have := hlt h3; show 0 ≤ (i : Int) ∧ (i : Int) < (nR c : Int); omega
  · have := hlt h3; have := pick_len (ownB c t.int) i; show (pick (ownB c t.int) i).length + 1 ≤ 1073741824; omega
  · replace h2 : ownB c t.int i = true := h2
    have := hlt h3
    refine ⟨⟨i + 1, by omega⟩, ⟨[(4, 7)], rfl, ⟨slot (i64_1 (n := i) (by omega)), rfl, rfl, rfl, rfl, rfl, rfl, trivial⟩, ⟨gro ?_, trivial⟩⟩, by show _ - (i + 1) < _ - i; omega⟩
    show pick (ownB c t.int) i ++ [D.I i] = pick (ownB c t.int) (i + 1)
    rw [pick_succ, if_pos h2]
  · replace h2 : ownB c t.int i = false := h2
    have := hlt h3
    refine ⟨⟨i + 1, by omega⟩, ⟨[], rfl, ⟨slot (i64_1 (n := i) (by omega)), rfl, rfl, rfl, rfl, rfl, rfl, trivial⟩, ⟨gro ?_, trivial⟩⟩, by show _ - (i + 1) < _ - i; omega⟩
    show pick (ownB c t.int) i = pick (ownB c t.int) (i + 1)
    rw [pick_succ, if_neg (by simp [h2]), List.append_nil]
  · have e := hge h3
    refine eqSame ?_
    show D.L (pick (ownB c t.int) i) = D.L (if tnErr c t.int ≠ 0 then [] else pick (ownB c t.int) (nR c))
    rw [if_neg (by simp [h1]), e]
  · exact h1.symm
theorem RulesR_fun : FunOK cK2 60 Try.f19 sRules := fun c _ t ht _ => by
  simp only [InR, InRs] at ht
  refine ⟨{ i : Nat // i ≤ nR c ∧ (tnErr c t.int ≠ 0 → i = 0) }, 5, fun i => ([(9, .dat i64 (.I i.1)), (8, .own 4 i64), (7, .dat i64 (.I (tnErr c t.int))), (2, .ptr 0 configS [] configS), (1, .dat i64 (.I t.int))], [(4, .grow i64 (pick (ownB c t.int) i.1)), (0, .box configS (.dat configS c))]), fun i => nR c - i.1,
    ⟨0, by omega, fun _ => rfl⟩, ⟨[(4, 3)], rfl, ⟨rfl, rfl, rfl, rfl, rfl, trivial⟩, ⟨rfl, rfl, trivial⟩⟩, ?_⟩
  intro x
  obtain ⟨i, hi, h0⟩ := x
  have hlt : ltB (i : Int) (nR c : Int) = true → i < nR c := ltN
  have hge : ltB (i : Int) (nR c : Int) = false → i = nR c := geN hi
  refine ⟨fun h1 => ⟨?_, fun h2 => ⟨?_, ?_⟩, fun h2 => ?_⟩, fun h1 => ⟨Bears.same ?_, Bears.int rfl, trivial⟩⟩
  all_goals replace h1 : (ltB (i : Int) (nR c : Int) && tnErr c t.int == 0) = _ := h1
  all_goals try obtain ⟨h3, h4⟩ := Bool.and_eq_true .. ▸ h1
  all_goals try have h4 := beq_iff_eq.mp h4
  all_goals try have h8 : nR c ≤ 8 := nR_le (tnErr_0 h4)
  · have := hlt h3; show 0 ≤ (i : Int) ∧ (i : Int) < (nR c : Int); omega
  · have := hlt h3; have := pick_len (ownB c t.int) i; show (pick (ownB c t.int) i).length + 1 ≤ 1073741824; omega
  · replace h2 : ownB c t.int i = true := h2
    have := hlt h3
    refine ⟨⟨i + 1, by omega, fun h => absurd h4 h⟩, ⟨[(4, 6)], rfl, ⟨slot (i64_1 (n := i) (by omega)), rfl, rfl, rfl, rfl, trivial⟩, ⟨gro ?_, rfl, trivial⟩⟩, by show _ - (i + 1) < _ - i; omega⟩
    show pick (ownB c t.int) i ++ [D.I i] = pick (ownB c t.int) (i + 1)
    rw [pick_succ, if_pos h2]
  · replace h2 : ownB c t.int i = false := h2
    have := hlt h3
    refine ⟨⟨i + 1, by omega, fun h => absurd h4 h⟩, ⟨[], rfl, ⟨slot (i64_1 (n := i) (by omega)), rfl, rfl, rfl, rfl, trivial⟩, ⟨gro ?_, rfl, trivial⟩⟩, by show _ - (i + 1) < _ - i; omega⟩
    show pick (ownB c t.int) i = pick (ownB c t.int) (i + 1)
    rw [pick_succ, if_neg (by simp [h2]), List.append_nil]
  · refine eqSame ?_
    show D.L (pick (ownB c t.int) i) = D.L (if tnErr c t.int ≠ 0 then [] else pick (ownB c t.int) (nR c))
    by_cases h4 : tnErr c t.int = 0
    · rw [if_neg (by simp [h4])]
      simp only [h4, beq_self_eq_true, Bool.and_true] at h1
      rw [hge h1]
    · rw [if_pos h4, h0 h4]; rfl
def sameL (s : Sh) (a b : List D) : Bool := a.length == b.length && (List.range a.length).all fun j => eqD s (a.getD j .Z) (b.getD j .Z)
theorem sameL_f {s : Sh} {a b : List D} {k : Nat} (hk : k < a.length) (h : eqD s (a.getD k .Z) (b.getD k .Z) = false) : sameL s a b = false := by
  rw [sameL, not_all_range hk h, Bool.and_false]
theorem sameL_t {s : Sh} {a b : List D} (e : a.length = b.length) (h : ∀ k, k < a.length → eqD s (a.getD k .Z) (b.getD k .Z) = true) : sameL s a b = true := by
  rw [sameL, all_range h, e]; simp
def sEq (s : Sh) : Sum := ⟨[.slice s, .slice s], fun _ => none, fun
  | [a, b] => .dat .bool (.B (sameL s a.list b.list))
  | _ => .und⟩
theorem eqC_fun : FunOK c0 60 Try.f70 (sEq classS) := fun a ha b hb _ => by
  simp only [InR] at ha hb
  have ha := ha.1
  have hb := hb.1
  refine ⟨fun h1 => Bears.bool ?_, fun h1 => ?_⟩
  all_goals replace h1 : ((a.list.length : Int) != (b.list.length : Int)) = _ := h1
  · show false = sameL _ a.list b.list
    simp only [bne_iff_ne, ne_eq, Int.natCast_inj] at h1
    simp only [sameL, beq_eq_false_iff_ne.mpr h1, Bool.false_and]
  simp only [bne_eq_false_iff_eq, Int.natCast_inj] at h1
  refine ⟨{ i : Nat // i ≤ a.list.length ∧ ∀ k, k < i → eqD classS (a.list.getD k .Z) (b.list.getD k .Z) = true }, 0, fun i => ([(13, .dat i64 (.I i.1)), (12, .dat i64 (.I a.list.length)), (0, .dat (.slice classS) a), (1, .dat (.slice classS) b)], []), fun i => a.list.length - i.1,
    ⟨0, by omega, fun k h => by omega⟩, ⟨[], rfl, ⟨rfl, rfl, rfl, rfl, trivial⟩, trivial⟩, ?_⟩
  intro x
  obtain ⟨i, hi, h0⟩ := x
  have hlt : ltB (i : Int) (a.list.length : Int) = true → i < a.list.length := ltN
  have hge : ltB (i : Int) (a.list.length : Int) = false → i = a.list.length := geN hi
  refine ⟨fun h2 => ⟨?_, ?_, by kernel_rfl, fun h3 => Bears.bool ?_, fun h3 => ?_⟩, fun h2 => Bears.bool ?_⟩
  · have := hlt h2; show 0 ≤ (i : Int) ∧ (i : Int) < (a.list.length : Int); omega
  · have := hlt h2; show 0 ≤ (i : Int) ∧ (i : Int) < (b.list.length : Int); omega
  · replace h3 : (!eqD classS (a.list.getD i .Z) (b.list.getD i .Z)) = true := h3
    show false = sameL _ a.list b.list
    rw [sameL, not_all_range (hlt h2) (by simpa using h3), Bool.and_false]
  · replace h3 : (!eqD classS (a.list.getD i .Z) (b.list.getD i .Z)) = false := h3
    have := hlt h2
    exact ⟨⟨i + 1, by omega, upto h0 (by simpa using h3)⟩, ⟨[], rfl, ⟨slot (i64_1 (n := i) (by omega)), rfl, rfl, rfl, trivial⟩, trivial⟩, by show _ - (i + 1) < _ - i; omega⟩
  · have e := hge h2
    show true = sameL _ a.list b.list
    rw [sameL, all_range (fun k hk => h0 k (by omega)), h1]; simp
theorem eqRu_fun : FunOK c0 60 Try.f71 (sEq ruleS) := fun a ha b hb _ => by
  simp only [InR] at ha hb
  have ha := ha.1
  have hb := hb.1
  refine ⟨fun h1 => Bears.bool ?_, fun h1 => ?_⟩
  all_goals replace h1 : ((a.list.length : Int) != (b.list.length : Int)) = _ := h1
  · show false = sameL _ a.list b.list
    simp only [bne_iff_ne, ne_eq, Int.natCast_inj] at h1
    simp only [sameL, beq_eq_false_iff_ne.mpr h1, Bool.false_and]
  simp only [bne_eq_false_iff_eq, Int.natCast_inj] at h1
  refine ⟨{ i : Nat // i ≤ a.list.length ∧ ∀ k, k < i → eqD ruleS (a.list.getD k .Z) (b.list.getD k .Z) = true }, 0, fun i => ([(13, .dat i64 (.I i.1)), (12, .dat i64 (.I a.list.length)), (0, .dat (.slice ruleS) a), (1, .dat (.slice ruleS) b)], []), fun i => a.list.length - i.1,
    ⟨0, by omega, fun k h => by omega⟩, ⟨[], rfl, ⟨rfl, rfl, rfl, rfl, trivial⟩, trivial⟩, ?_⟩
  intro x
  obtain ⟨i, hi, h0⟩ := x
  have hlt : ltB (i : Int) (a.list.length : Int) = true → i < a.list.length := ltN
  have hge : ltB (i : Int) (a.list.length : Int) = false → i = a.list.length := geN hi
  refine ⟨fun h2 => ⟨?_, ?_, by kernel_rfl, fun h3 => Bears.bool ?_, fun h3 => ?_⟩, fun h2 => Bears.bool ?_⟩
  · have := hlt h2; show 0 ≤ (i : Int) ∧ (i : Int) < (a.list.length : Int); omega
  · have := hlt h2; show 0 ≤ (i : Int) ∧ (i : Int) < (b.list.length : Int); omega
  · replace h3 : (!eqD ruleS (a.list.getD i .Z) (b.list.getD i .Z)) = true := h3
    show false = sameL _ a.list b.list
    rw [sameL, not_all_range (hlt h2) (by simpa using h3), Bool.and_false]
  · replace h3 : (!eqD ruleS (a.list.getD i .Z) (b.list.getD i .Z)) = false := h3
    have := hlt h2
    exact ⟨⟨i + 1, by omega, upto h0 (by simpa using h3)⟩, ⟨[], rfl, ⟨slot (i64_1 (n := i) (by omega)), rfl, rfl, rfl, trivial⟩, trivial⟩, by show _ - (i + 1) < _ - i; omega⟩
  · have e := hge h2
    show true = sameL _ a.list b.list
    rw [sameL, all_range (fun k hk => h0 k (by omega)), h1]; simp
def sameC (a b : D) : Bool := sameL classS (cls a) (cls b) && eqD (.arr 6 tenS) (a.nth 1) (b.nth 1) && sameL ruleS (rls a) (rls b) && (a.nth 3).int == (b.nth 3).int
def sSameC : Sum := ⟨[configS, configS], fun _ => none, fun
  | [a, b] => .dat .bool (.B (sameC a b))
  | _ => .und⟩
def cK3 : Ctx := ⟨tab, refs, [(70, sEq classS), (71, sEq ruleS)], [], keep, mps⟩
theorem Same_fun : FunOK cK3 60 Try.f21 sSameC := fun a ha b hb _ => by
  exact Bears.bool rfl
theorem SameR_fun : FunOK c0 60 Try.f22 sSameC := fun a ha b hb _ => by
  simp only [InR, InRs] at ha hb
  have ha0 : nC a ≤ 9223372036854775807 := ha.1.1
  have ha2 : nR a ≤ 9223372036854775807 := ha.2.2.1.1
  clear ha hb
  refine ⟨fun h1 => Bears.bool ?_, fun h1 => ?_⟩
  all_goals replace h1 : (!eqD (.arr 6 tenS) (a.nth 1) (b.nth 1) || (a.nth 3).int != (b.nth 3).int || (nC a : Int) != (nC b : Int) || (nR a : Int) != (nR b : Int)) = _ := h1
  · show false = sameC a b
    symm
    rw [sameC, sameL, sameL]
    simp only [bne, Bool.or_eq_true, Bool.not_eq_true', beq_eq_false_iff_ne, ne_eq, Int.natCast_inj] at h1
    rcases h1 with ((h1 | h1) | h1) | h1
    · rw [h1]; simp
    · rw [beq_eq_false_iff_ne.mpr h1]; simp
    · rw [beq_eq_false_iff_ne.mpr (show ¬ (cls a).length = (cls b).length from h1)]; simp
    · rw [beq_eq_false_iff_ne.mpr (show ¬ (rls a).length = (rls b).length from h1)]; simp
  simp only [bne, Bool.or_eq_false_iff, Bool.not_eq_false', beq_iff_eq, Int.natCast_inj] at h1
  obtain ⟨⟨⟨e1, e2⟩, e3⟩, e4⟩ := h1
  refine ⟨{ i : Nat // i ≤ nC a ∧ ∀ k, k < i → eqD classS (clsAt a k) (clsAt b k) = true }, 2, fun i => ([(5, .dat i64 (.I i.1)), (2, .ptr 0 configS [] configS), (3, .ptr 1 configS [] configS)], [(0, .box configS (.dat configS a)), (1, .box configS (.dat configS b))]), fun i => nC a - i.1,
    ⟨0, by omega, fun k h => by omega⟩, ⟨[], rfl, ⟨rfl, rfl, rfl, trivial⟩, ⟨rfl, rfl, trivial⟩⟩, ?_⟩
  intro x
  obtain ⟨i, hi, h0⟩ := x
  have hlt : ltB (i : Int) (nC a : Int) = true → i < nC a := ltN
  have hge : ltB (i : Int) (nC a : Int) = false → i = nC a := geN hi
  have eC : (cls a).length = (cls b).length := e3
  have eR : (rls a).length = (rls b).length := e4
  refine ⟨fun h1 => ⟨?_, ?_, by kernel_rfl, fun h2 => Bears.bool ?_, fun h2 => ?_⟩, fun h1 => ?_⟩
  · have := hlt h1; show 0 ≤ (i : Int) ∧ (i : Int) < (nC a : Int); omega
  · have := hlt h1; show 0 ≤ (i : Int) ∧ (i : Int) < (nC b : Int); omega
  · replace h2 : (!eqD classS (clsAt a i) (clsAt b i)) = true := h2
    have hf : sameL classS (cls a) (cls b) = false := sameL_f (hlt h1) ((Bool.not_eq_true' _).mp h2)
    show false = sameC a b
    rw [sameC, hf]; simp
  · replace h2 : (!eqD classS (clsAt a i) (clsAt b i)) = false := h2
    have := hlt h1
    exact ⟨⟨i + 1, by omega, upto h0 (by simpa using h2)⟩, ⟨[], rfl, ⟨slot (i64_1 (n := i) (by omega)), rfl, rfl, trivial⟩, ⟨rfl, rfl, trivial⟩⟩, by show _ - (i + 1) < _ - i; omega⟩
  have hC : sameL classS (cls a) (cls b) = true := by
    have e := hge h1
    exact sameL_t eC fun k hk => h0 k (by rw [e]; exact hk)
  clear h1 hlt hge
  refine ⟨{ i : Nat // i ≤ nR a ∧ ∀ k, k < i → eqD ruleS (rlsAt a k) (rlsAt b k) = true }, 2, fun i => ([(6, .dat i64 (.I i.1)), (2, .ptr 0 configS [] configS), (3, .ptr 1 configS [] configS)], [(0, .box configS (.dat configS a)), (1, .box configS (.dat configS b))]), fun i => nR a - i.1,
    ⟨0, by omega, fun k h => by omega⟩, ⟨[], rfl, ⟨rfl, rfl, rfl, trivial⟩, ⟨rfl, rfl, trivial⟩⟩, ?_⟩
  intro x
  obtain ⟨i, hi, h0⟩ := x
  have hlt : ltB (i : Int) (nR a : Int) = true → i < nR a := ltN
  have hge : ltB (i : Int) (nR a : Int) = false → i = nR a := geN hi
  refine ⟨fun h1 => ⟨?_, ?_, by kernel_rfl, fun h2 => Bears.bool ?_, fun h2 => ?_⟩, fun h1 => Bears.bool ?_⟩
  · have := hlt h1; show 0 ≤ (i : Int) ∧ (i : Int) < (nR a : Int); omega
  · have := hlt h1; show 0 ≤ (i : Int) ∧ (i : Int) < (nR b : Int); omega
  · replace h2 : (!eqD ruleS (rlsAt a i) (rlsAt b i)) = true := h2
    have hf : sameL ruleS (rls a) (rls b) = false := sameL_f (hlt h1) ((Bool.not_eq_true' _).mp h2)
    show false = sameC a b
    rw [sameC, hf]; simp
  · replace h2 : (!eqD ruleS (rlsAt a i) (rlsAt b i)) = false := h2
    have := hlt h1
    exact ⟨⟨i + 1, by omega, upto h0 (by simpa using h2)⟩, ⟨[], rfl, ⟨slot (i64_1 (n := i) (by omega)), rfl, rfl, trivial⟩, ⟨rfl, rfl, trivial⟩⟩, by show _ - (i + 1) < _ - i; omega⟩
  · have e := hge h1
    have hR : sameL ruleS (rls a) (rls b) = true := sameL_t eR fun k hk => h0 k (by rw [e]; exact hk)
    show true = sameC a b
    rw [sameC, hC, e1, hR, e2]; simp
theorem light_ok : SumOK Try.prog 14 sLight := sumOK_of_vc (c := c0) (ctxOK .nil) mixed Try.func14 rfl (by decide) @light_fun
theorem lightK_ok : SumOK Try.prog 72 sLight := sumOK_of_vc (c := c0) (ctxOK .nil) mixed Try.func72 rfl (by decide) @lightK_fun
theorem sameInts_ok : SumOK Try.prog 20 sSameI := sumOK_of_vc (c := c0) (ctxOK .nil) mixed Try.func20 rfl (by decide) @sameInts_fun
theorem okR_ok : SumOK Try.prog 68 sOkR := sumOK_of_vc (c := cK) (ctxOK (.cons check_ok (.cons checkR_ok (.cons below_ok (.cons belowR_ok (.cons from_ok .nil)))))) mixed Try.func68 rfl (by decide) @ok_fun
theorem tenantP_ok : SumOK Try.prog 16 sTenant := sumOK_of_vc (c := cK) (ctxOK (.cons check_ok (.cons checkR_ok (.cons below_ok (.cons belowR_ok (.cons from_ok .nil)))))) mixed Try.func16 rfl (by decide) @Tenant_fun
theorem tenantR_ok : SumOK Try.prog 17 sTenant := sumOK_of_vc (c := cT) (ctxOK (.cons okR_ok (.cons from_ok .nil))) mixed Try.func17 rfl (by decide) @TenantR_fun
theorem k2OK : CtxOK Try.prog cK2 := ctxOK (.cons okR_ok (.cons tenantP_ok (.cons tenantR_ok (.cons below_ok (.cons belowR_ok (.cons from_ok (.cons check_ok .nil)))))))
theorem rulesP_ok : SumOK Try.prog 18 sRules := sumOK_of_vc (c := cK2) k2OK mixed Try.func18 rfl (by decide) @Rules_fun
theorem rulesR_ok : SumOK Try.prog 19 sRules := sumOK_of_vc (c := cK2) k2OK mixed Try.func19 rfl (by decide) @RulesR_fun
theorem eqC_ok : SumOK Try.prog 70 (sEq classS) := sumOK_of_vc (c := c0) (ctxOK .nil) mixed Try.func70 rfl (by decide) @eqC_fun
theorem eqRu_ok : SumOK Try.prog 71 (sEq ruleS) := sumOK_of_vc (c := c0) (ctxOK .nil) mixed Try.func71 rfl (by decide) @eqRu_fun
theorem same_ok : SumOK Try.prog 21 sSameC := sumOK_of_vc (c := cK3) (ctxOK (.cons eqC_ok (.cons eqRu_ok .nil))) mixed Try.func21 rfl (by decide) @Same_fun
theorem sameR_ok : SumOK Try.prog 22 sSameC := sumOK_of_vc (c := c0) (ctxOK .nil) mixed Try.func22 rfl (by decide) @SameR_fun
end Go.Proofs.Ytjcfnooplhoheaa

namespace Go.Proofs.Ytjcfnooplhoheaa
open Go Go.Vm
set_option linter.unusedSimpArgs false
set_option maxRecDepth 10000
/-- The place of a label's class; the place behind them if there is none. -/
def fl (c : D) (L : Int) : Nat := fi (fun k => if labAt c k = L then 1 else 0) (nC c) 0
def clN (c : D) (L : Int) : Int := if chE c ≠ 0 then 0 else if fl c L < nC c then fl c L else 0
def clX (c : D) (L : Int) : Int := if chE c ≠ 0 then chE c else if fl c L < nC c then 0 else 7
def sClassC : Sum := ⟨[configS, u64], fun _ => none, fun
  | [c, l] => .tup [.dat i64 (.I (clN c l.int)), .dat i64 (.I (clX c l.int))]
  | _ => .und⟩
theorem fl_at {c : D} {L : Int} {i : Nat} (hi : i < nC c) (h : labAt c i = L) (h0 : ∀ k, k < i → labAt c k ≠ L) : fl c L = i :=
  fi_0 hi (fun k hk => if_neg (h0 k hk)) (by simp [h])
theorem fl_none {c : D} {L : Int} (h0 : ∀ k, k < nC c → labAt c k ≠ L) : fl c L = nC c := fi_all fun k hk => if_neg (h0 k hk)
theorem lab_inj {c : D} (h : chE c = 0) : ∀ i j, i < j → j < nC c → labAt c i ≠ labAt c j := fun i j hi hj e => by
  have hd := (ch_ok.1 h).2.1 j hj
  by_cases hb : clBad (clsAt c j) = true
  · rw [clE_2 hb] at hd; cases hd
  · rw [clE_8 (by simpa using hb) (List.any_eq_true.2 ⟨i, by simpa using hi, by simpa using e⟩)] at hd; cases hd
theorem mHas_mPut {k v : D} {L : Int} : ∀ {es : List (D × D)}, mHas L (mPut k v es) = (mHas L es || decide (k.int = L))
  | [] => by simp [mPut, mHas]
  | (k', v') :: es => by
    have ih := mHas_mPut (k := k) (v := v) (L := L) (es := es)
    simp only [mPut]
    by_cases h : k'.int = k.int
    · rw [if_pos h]
      simp only [mHas, h]
      cases decide (k.int = L) <;> simp
    · rw [if_neg h]
      simp only [mHas, ih, Bool.or_assoc]
theorem Class_fun : FunOK cK2 60 Try.f53 sClassC := fun c hc l hl _ => by
  simp only [InR, InRs] at hc
  have hn0 : nC c ≤ 9223372036854775807 := hc.1.1
  clear hc
  refine ⟨fun h1 => ⟨Bears.int ?_, Bears.int ?_, trivial⟩, fun h1 => ?_⟩
  all_goals replace h1 : (chE c != 0) = _ := h1
  all_goals simp only [bne_iff_ne, ne_eq, bne_eq_false_iff_eq] at h1
  · show 0 = clN c l.int
    rw [clN, if_pos h1]
  · show chE c = clX c l.int
    rw [clX, if_pos h1]
  refine ⟨{ x : Nat × List (D × D) // x.1 ≤ nC c ∧ (∀ L, mHas L x.2 = (List.range x.1).any fun k => labAt c k == L) ∧ ∀ k, k < x.1 → (mGet (.I 0) (labAt c k) x.2).int = k }, 3, fun x => ([(25, .dat i64 (.I x.1.1)), (24, .dat i64 (.I (nC c))), (23, .dat (.slice classS) (c.nth 0)), (8, .mp 2 u64 i64), (1, .dat u64 (.I l.int))], [(2, .map u64 i64 x.1.2)]), fun x => nC c - x.1.1,
    ⟨(0, []), by omega, fun L => rfl, fun k h => by omega⟩, ⟨[(2, 1)], rfl, ⟨rfl, rfl, rfl, rfl, rfl, trivial⟩, ⟨rfl, trivial⟩⟩, ?_⟩
  intro x
  obtain ⟨⟨i, es⟩, hi, hm, h0⟩ := x
  simp only at hi hm h0
  have hlt : ltB (i : Int) (nC c : Int) = true → i < nC c := ltN
  have hge : ltB (i : Int) (nC c : Int) = false → i = nC c := geN hi
  refine ⟨fun h2 => ⟨?_, ?_⟩, fun h2 => ⟨fun h3 => ⟨Bears.int ?_, Bears.int ?_, trivial⟩, fun h3 => ⟨Bears.int ?_, Bears.int ?_, trivial⟩⟩⟩
  · have := hlt h2; show 0 ≤ (i : Int) ∧ (i : Int) < (nC c : Int); omega
  · have hk := hlt h2
    refine ⟨⟨(i + 1, mPut (.I (labAt c i)) (.I i) es), by show i + 1 ≤ _; omega, fun L => ?_, fun k hk2 => ?_⟩, ⟨[], rfl, ⟨slot (i64_1 (n := i) (by omega)), rfl, rfl, rfl, rfl, trivial⟩, ⟨rfl, trivial⟩⟩, by show _ - (i + 1) < _ - i; omega⟩
    · show mHas L (mPut (.I (labAt c i)) (.I i) es) = (List.range (i + 1)).any fun k => labAt c k == L
      rw [mHas_mPut, List.range_succ, List.any_append, ← hm]
      by_cases e : labAt c i = L <;> simp [e]
    · show (mGet (.I 0) (labAt c k) (mPut (.I (labAt c i)) (.I i) es)).int = k
      rw [mGet_mPut]
      rcases Nat.lt_or_eq_of_le (Nat.le_of_lt_succ hk2) with h | rfl
      · rw [if_neg (show ¬ (D.I (labAt c i)).int = labAt c k from fun e => lab_inj h1 k i h hk e.symm)]; exact h0 k h
      · rw [if_pos (show (D.I (labAt c k)).int = labAt c k from rfl)]; rfl
  all_goals have e := hge h2
  all_goals subst e
  all_goals replace h3 : (!mHas l.int es) = _ := h3
  all_goals rw [hm] at h3
  · rw [clN, if_neg (by simp [h1])]
    have : fl c l.int = nC c := fl_none fun k hk e => by
      simp only [Bool.not_eq_true', List.any_eq_false, List.mem_range] at h3
      exact h3 k hk (by simp [e])
    show 0 = if fl c l.int < nC c then (fl c l.int : Int) else 0
    rw [if_neg (by omega)]
  · have : fl c l.int = nC c := fl_none fun k hk e => by
      simp only [Bool.not_eq_true', List.any_eq_false, List.mem_range] at h3
      exact h3 k hk (by simp [e])
    show 7 = clX c l.int
    rw [clX, if_neg (by simp [h1]), if_neg (by omega)]
  all_goals simp only [Bool.not_eq_false', List.any_eq_true, List.mem_range, beq_iff_eq] at h3
  all_goals obtain ⟨k, hk, e⟩ := h3
  all_goals have ef : fl c l.int = k := fl_at hk e fun j hj ej => lab_inj h1 j k hj hk (by omega)
  · show (mGet (.I 0) l.int es).int = clN c l.int
    rw [clN, if_neg (by simp [h1]), ef, if_pos hk, ← h0 k hk, e]
  · show 0 = clX c l.int
    rw [clX, if_neg (by simp [h1]), ef, if_pos hk]
theorem ClassR_fun : FunOK cK2 60 Try.f54 sClassC := fun c hc l hl _ => by
  simp only [InR, InRs] at hc
  have hn0 : nC c ≤ 9223372036854775807 := hc.1.1
  clear hc
  refine ⟨fun h1 => ⟨Bears.int ?_, Bears.int ?_, trivial⟩, fun h1 => ?_⟩
  all_goals replace h1 : (chE c != 0) = _ := h1
  all_goals simp only [bne_iff_ne, ne_eq, bne_eq_false_iff_eq] at h1
  · show 0 = clN c l.int
    rw [clN, if_pos h1]
  · show chE c = clX c l.int
    rw [clX, if_pos h1]
  refine ⟨{ i : Nat // i ≤ nC c ∧ ∀ k, k < i → labAt c k ≠ l.int }, 1, fun i => ([(7, .dat i64 (.I i.1)), (2, .ptr 0 configS [] configS), (1, .dat u64 (.I l.int))], [(0, .box configS (.dat configS c))]), fun i => nC c - i.1,
    ⟨0, by omega, fun k h => by omega⟩, ⟨[], rfl, ⟨rfl, rfl, rfl, trivial⟩, ⟨rfl, trivial⟩⟩, ?_⟩
  intro x
  obtain ⟨i, hi, h0⟩ := x
  have hlt : ltB (i : Int) (nC c : Int) = true → i < nC c := ltN
  have hge : ltB (i : Int) (nC c : Int) = false → i = nC c := geN hi
  refine ⟨fun h2 => ⟨?_, fun h3 => ⟨Bears.int ?_, Bears.int ?_, trivial⟩, fun h3 => ?_⟩, fun h2 => ⟨Bears.int ?_, Bears.int ?_, trivial⟩⟩
  · have := hlt h2; show 0 ≤ (i : Int) ∧ (i : Int) < (nC c : Int); omega
  all_goals try replace h3 : (labAt c i == l.int) = _ := h3
  all_goals try simp only [beq_iff_eq, beq_eq_false_iff_ne] at h3
  · have ef := fl_at (hlt h2) h3 h0
    show (i : Int) = clN c l.int
    rw [clN, if_neg (by simp [h1]), ef, if_pos (hlt h2)]
  · have ef := fl_at (hlt h2) h3 h0
    show 0 = clX c l.int
    rw [clX, if_neg (by simp [h1]), ef, if_pos (hlt h2)]
  · have := hlt h2
    exact ⟨⟨i + 1, by omega, upto h0 h3⟩, ⟨[], rfl, ⟨slot (i64_1 (n := i) (by omega)), rfl, rfl, trivial⟩, ⟨rfl, trivial⟩⟩, by show _ - (i + 1) < _ - i; omega⟩
  · have ef := fl_none (c := c) (L := l.int) fun k hk => h0 k (by rw [hge h2]; exact hk)
    show 0 = clN c l.int
    rw [clN, if_neg (by simp [h1]), ef, if_neg (by omega)]
  · have ef := fl_none (c := c) (L := l.int) fun k hk => h0 k (by rw [hge h2]; exact hk)
    show 7 = clX c l.int
    rw [clX, if_neg (by simp [h1]), ef, if_neg (by omega)]
def seeB (c : D) (L : Int) (i : Nat) : Bool := belowB (labAt c i) L
def sSees : Sum := ⟨[configS, u64], fun _ => none, fun
  | [c, l] => .tup [.dat (.slice i64) (.L (if chE c ≠ 0 then [] else pick (seeB c l.int) (nC c))), .dat i64 (.I (chE c))]
  | _ => .und⟩
theorem Sees_fun : FunOK cK2 60 Try.f55 sSees := fun c hc l hl _ => by
  simp only [InR, InRs] at hc
  have hn0 : nC c ≤ 9223372036854775807 := hc.1.1
  clear hc
  refine ⟨fun h1 => ⟨Bears.same ?_, Bears.int rfl, trivial⟩, fun h1 => ?_⟩
  all_goals replace h1 : (chE c != 0) = _ := h1
  · refine eqSame ?_
    show D.L [] = D.L (if chE c ≠ 0 then [] else pick (seeB c l.int) (nC c))
    rw [if_pos (by simpa using h1)]
  simp only [bne_eq_false_iff_eq] at h1
  have h8 : nC c ≤ 8 := nC_le h1
  refine ⟨{ i : Nat // i ≤ nC c }, 4, fun i => ([(22, .dat i64 (.I i.1)), (21, .dat i64 (.I (nC c))), (20, .dat (.slice classS) (c.nth 0)), (8, .own 3 i64), (1, .dat u64 (.I l.int))], [(3, .grow i64 (pick (seeB c l.int) i.1))]), fun i => nC c - i.1,
    ⟨0, by omega⟩, ⟨[(3, 2)], rfl, ⟨rfl, rfl, rfl, rfl, rfl, trivial⟩, ⟨rfl, trivial⟩⟩, ?_⟩
  intro x
  obtain ⟨i, hi⟩ := x
  have hlt : ltB (i : Int) (nC c : Int) = true → i < nC c := ltN
  have hge : ltB (i : Int) (nC c : Int) = false → i = nC c := geN hi
  refine ⟨fun h3 => ⟨?_, fun h2 => ⟨?_, ?_⟩, fun h2 => ?_⟩, fun h3 => ⟨Bears.same ?_, Bears.int ?_, trivial⟩⟩
  · have := hlt h3; show 0 ≤ (i : Int) ∧ (i : Int) < (nC c : Int); omega
  · have := hlt h3; have := pick_len (seeB c l.int) i; show (pick (seeB c l.int) i).length + 1 ≤ 1073741824; omega
  · replace h2 : seeB c l.int i = true := h2
    have := hlt h3
    refine ⟨⟨i + 1, by omega⟩, ⟨[(3, 6)], rfl, ⟨slot (i64_1 (n := i) (by omega)), rfl, rfl, rfl, rfl, trivial⟩, ⟨gro ?_, trivial⟩⟩, by show _ - (i + 1) < _ - i; omega⟩
    show pick (seeB c l.int) i ++ [D.I i] = pick (seeB c l.int) (i + 1)
    rw [pick_succ, if_pos h2]
  · replace h2 : seeB c l.int i = false := h2
    have := hlt h3
    refine ⟨⟨i + 1, by omega⟩, ⟨[], rfl, ⟨slot (i64_1 (n := i) (by omega)), rfl, rfl, rfl, rfl, trivial⟩, ⟨gro ?_, trivial⟩⟩, by show _ - (i + 1) < _ - i; omega⟩
    show pick (seeB c l.int) i = pick (seeB c l.int) (i + 1)
    rw [pick_succ, if_neg (by simp [h2]), List.append_nil]
  · have e := hge h3
    refine eqSame ?_
    show D.L (pick (seeB c l.int) i) = D.L (if chE c ≠ 0 then [] else pick (seeB c l.int) (nC c))
    rw [if_neg (by simp [h1]), e]
  · exact h1.symm
theorem SeesR_fun : FunOK cK2 60 Try.f56 sSees := fun c hc l hl _ => by
  simp only [InR, InRs] at hc
  have hn0 : nC c ≤ 9223372036854775807 := hc.1.1
  clear hc
  refine ⟨{ i : Nat // i ≤ nC c ∧ (chE c ≠ 0 → i = 0) }, 4, fun i => ([(8, .dat i64 (.I i.1)), (7, .own 3 i64), (6, .dat i64 (.I (chE c))), (2, .ptr 0 configS [] configS), (1, .dat u64 (.I l.int))], [(3, .grow i64 (pick (seeB c l.int) i.1)), (0, .box configS (.dat configS c))]), fun i => nC c - i.1,
    ⟨0, by omega, fun _ => rfl⟩, ⟨[(3, 2)], rfl, ⟨rfl, rfl, rfl, rfl, rfl, trivial⟩, ⟨rfl, rfl, trivial⟩⟩, ?_⟩
  intro x
  obtain ⟨i, hi, h0⟩ := x
  have hlt : ltB (i : Int) (nC c : Int) = true → i < nC c := ltN
  have hge : ltB (i : Int) (nC c : Int) = false → i = nC c := geN hi
  refine ⟨fun h1 => ⟨?_, fun h2 => ⟨?_, ?_⟩, fun h2 => ?_⟩, fun h1 => ⟨Bears.same ?_, Bears.int rfl, trivial⟩⟩
  all_goals replace h1 : (ltB (i : Int) (nC c : Int) && chE c == 0) = _ := h1
  all_goals try obtain ⟨h3, h4⟩ := Bool.and_eq_true .. ▸ h1
  all_goals try have h4 := beq_iff_eq.mp h4
  all_goals try have h8 : nC c ≤ 8 := nC_le h4
  · have := hlt h3; show 0 ≤ (i : Int) ∧ (i : Int) < (nC c : Int); omega
  · have := hlt h3; have := pick_len (seeB c l.int) i; show (pick (seeB c l.int) i).length + 1 ≤ 1073741824; omega
  · replace h2 : seeB c l.int i = true := h2
    have := hlt h3
    refine ⟨⟨i + 1, by omega, fun h => absurd h4 h⟩, ⟨[(3, 5)], rfl, ⟨slot (i64_1 (n := i) (by omega)), rfl, rfl, rfl, rfl, trivial⟩, ⟨gro ?_, rfl, trivial⟩⟩, by show _ - (i + 1) < _ - i; omega⟩
    show pick (seeB c l.int) i ++ [D.I i] = pick (seeB c l.int) (i + 1)
    rw [pick_succ, if_pos h2]
  · replace h2 : seeB c l.int i = false := h2
    have := hlt h3
    refine ⟨⟨i + 1, by omega, fun h => absurd h4 h⟩, ⟨[], rfl, ⟨slot (i64_1 (n := i) (by omega)), rfl, rfl, rfl, rfl, trivial⟩, ⟨gro ?_, rfl, trivial⟩⟩, by show _ - (i + 1) < _ - i; omega⟩
    show pick (seeB c l.int) i = pick (seeB c l.int) (i + 1)
    rw [pick_succ, if_neg (by simp [h2]), List.append_nil]
  · refine eqSame ?_
    show D.L (pick (seeB c l.int) i) = D.L (if chE c ≠ 0 then [] else pick (seeB c l.int) (nC c))
    by_cases h4 : chE c = 0
    · rw [if_neg (by simp [h4])]
      simp only [h4, beq_self_eq_true, Bool.and_true] at h1
      rw [hge h1]
    · rw [if_pos h4, h0 h4]; rfl
def ten1 : D := .L [.I 1, .I 1, .I 1, .I 1, .I 1]
def tens : Nat → D
  | 0 => D0 (.arr 6 tenS)
  | n + 1 => D.puts (.arr 6 tenS) (tens n) [.idx n] ten1
def shownC : D := .L [.L [.L [.I 0, .I 4, .I 2], .L [.I 1, .I 8, .I 8], .L [.I 3, .I 1, .I 0]], tens 6, .L [.L [.I 2, .I 3, .I 1, .B true, .I 0, .I (-5), .I 5]], .I 10]
def sShown : Sum := ⟨[], fun _ => none, fun _ => .dat configS shownC⟩
theorem shown_fun : FunOK c0 60 Try.f64 sShown := fun _ => by
  refine ⟨{ i : Nat // i ≤ 6 }, 4, fun i => ([(2, .dat i64 (.I i.1)), (1, .ptr 3 configS [] configS), (0, .ptr 0 configS [] configS)], [(3, .box configS (.st [.slice classS, .arr 6 tenS, .slice ruleS, u64] [.own 1 classS, .dat (.arr 6 tenS) (tens i.1), .own 2 ruleS, .dat u64 (.I 10)])), (2, .grow ruleS (rls shownC)), (1, .grow classS (cls shownC)), (0, .box configS (.st [.slice classS, .arr 6 tenS, .slice ruleS, u64]
    [.cst (Value.slice none 0 0), .dat (.arr 6 tenS) (D0 (.arr 6 tenS)), .cst (Value.slice none 0 0), .dat u64 (D0 u64)]))]), fun i => 6 - i.1,
    ⟨0, by omega⟩, ⟨[], rfl, ⟨rfl, rfl, rfl, trivial⟩, ⟨rfl, rfl, rfl, rfl, trivial⟩⟩, ?_⟩
  intro x
  obtain ⟨i, hi⟩ := x
  have hlt : ltB (i : Int) 6 = true → i < 6 := fun h => by simp only [ltB_true] at h; omega
  have hge : ltB (i : Int) 6 = false → i = 6 := fun h => by simp only [ltB_false] at h; omega
  refine ⟨fun h1 => ⟨?_, ?_⟩, fun h1 => Bears.same (eqSame ?_)⟩
  · have := hlt h1; show 0 ≤ (i : Int) ∧ (i : Int) < ((6 : Nat) : Int); omega
  · have := hlt h1
    exact ⟨⟨i + 1, by omega⟩, ⟨[], rfl, ⟨slot (i64_1 (n := i) (by omega)), rfl, rfl, trivial⟩, ⟨rfl, rfl, rfl, rfl, trivial⟩⟩, by show _ - (i + 1) < _ - i; omega⟩
  · have e := hge h1
    subst e
    rfl
theorem classP_ok : SumOK Try.prog 53 sClassC := sumOK_of_vc (c := cK2) k2OK mixed Try.func53 rfl (by decide) @Class_fun
theorem classR_ok : SumOK Try.prog 54 sClassC := sumOK_of_vc (c := cK2) k2OK mixed Try.func54 rfl (by decide) @ClassR_fun
theorem seesP_ok : SumOK Try.prog 55 sSees := sumOK_of_vc (c := cK2) k2OK mixed Try.func55 rfl (by decide) @Sees_fun
theorem seesR_ok : SumOK Try.prog 56 sSees := sumOK_of_vc (c := cK2) k2OK mixed Try.func56 rfl (by decide) @SeesR_fun
theorem shown_ok : SumOK Try.prog 64 sShown := sumOK_of_vc (c := c0) (ctxOK .nil) mixed Try.func64 rfl (by decide) @shown_fun
def cAwake : Ctx := ⟨tab, refs, [(64, sShown), (51, sCheckC), (53, sClassC), (55, sSees), (20, sSameI)], [], keep, mps⟩
def sTrue : Sum := ⟨[], fun _ => none, fun _ => .dat .bool (.B true)⟩
theorem awake_fun : FunOK cAwake 200 Try.f15 sTrue := fun _ => by
  refine ⟨?_, trivial, Bears.bool ?_⟩
  · show (chE shownC == 0 && clX shownC 1 == 0 && clN shownC 1 == 1 && clX shownC 2 == 7 && chE shownC == 0) = true
    kernel_rfl
  · show (chE shownC == 0 && clX shownC 1 == 0 && clN shownC 1 == 1 && clX shownC 2 == 7 && chE shownC == 0 && sameI (if chE shownC ≠ 0 then [] else pick (seeB shownC 1) (nC shownC)) [.I 0, .I 1]) = true
    kernel_rfl
theorem awake_ok : SumOK Try.prog 15 sTrue := sumOK_of_vc (c := cAwake) (ctxOK (.cons shown_ok (.cons check_ok (.cons classP_ok (.cons seesP_ok (.cons sameInts_ok .nil)))))) mixed Try.func15 rfl (by decide) @awake_fun
def cTenants : Ctx := ⟨tab, refs, [(14, sLight), (15, sTrue), (16, sTenant), (17, sTenant), (18, sRules), (19, sRules), (20, sSameI), (21, sSameC), (22, sSameC)], [], keep, mps⟩
theorem eqTen (d : D) : eqD tenS d d = true := by simp [eqD, eqDs]
theorem sameI_rfl (l : List D) : sameI l l = true := by
  rw [sameI, all_range (fun k _ => beq_self_eq_true _)]; simp
theorem sameL_rfl {s : Sh} (h : ∀ d, eqD s d d = true) (l : List D) : sameL s l l = true := sameL_t rfl fun _ _ => h _
theorem sameC_rfl (c : D) : sameC c c = true := by
  rw [sameC, sameL_rfl (fun d => by simp [eqD, eqDs]), sameL_rfl (fun d => by simp [eqD, eqDs])]
  simp [eqD, eqDs]
def sLawT : Sum := ⟨[configS, configS, i64], fun _ => none, fun _ => .dat .bool (.B true)⟩
theorem tenants_law : FunOK cTenants 80 Try.f3 sLawT := fun a ha b hb t ht _ => by
  refine ⟨fun h1 => Bears.bool rfl, fun h1 => ⟨by kernel_rfl, Bears.bool ?_⟩⟩
  show (eqD tenS (tnGet a t.int) (tnGet a t.int) && tnErr a t.int == tnErr a t.int && sameI (if tnErr a t.int ≠ 0 then [] else pick (ownB a t.int) (nR a)) (if tnErr a t.int ≠ 0 then [] else pick (ownB a t.int) (nR a)) && tnErr a t.int == tnErr a t.int && sameC a b == sameC a b && sameC a a && true) = true
  simp only [eqTen, beq_self_eq_true, sameI_rfl, sameC_rfl, Bool.and_self]
theorem tenantsLaw_ok : SumOK Try.prog 3 sLawT := sumOK_of_vc (c := cTenants) (ctxOK (.cons light_ok (.cons awake_ok (.cons tenantP_ok (.cons tenantR_ok (.cons rulesP_ok (.cons rulesR_ok (.cons sameInts_ok (.cons same_ok (.cons sameR_ok .nil)))))))))) mixed Try.func3 rfl (by decide) @tenants_law
end Go.Proofs.Ytjcfnooplhoheaa
