/- Accounts of configurations: the program's Check. -/
import Derived.Test.YtelemmagiagohaaWCa
namespace Go.Proofs.Ytelemmagiagohaa.Cf
open Go Go.Vm
set_option linter.unusedSimpArgs false
set_option maxRecDepth 10000

def tab : List (Nat × Sh) := [(34, configS), (28, .slice classS), (97, classS), (31, .arr 6 tenS), (30, tenS), (32, .slice ruleS), (102, ruleS),
  (23, u64), (3, i64), (2, i64), (4, .bool), (43, i64), (53, .slice i64), (144, .arr 2 i64), (145, .slice (.arr 2 i64)), (99, .slice u64)]
def refs : List (Nat × Value) := [(128, .nilFunc)]
def mps : List (Nat × MI) := [(125, .map u64 .bool), (130, .vec)]
def c0 : Ctx := ⟨tab, refs, [], [], keep, mps⟩

def sBelow : Sum := ⟨[u64, u64], fun _ => none, fun
  | [a, b] => .dat .bool (.B (belowB a.int b.int))
  | _ => .und⟩
theorem below_fun : FunOK c0 20 Try.f67 sBelow := fun _ _ _ _ _ => Bears.rfl
theorem belowR_fun : FunOK c0 20 Try.f98 sBelow := fun _ _ _ _ _ => Bears.rfl

/-- The numbers are within their limits. -/
def inL (n l : List D) (i : Nat) : Bool := !out (n.getD i .Z).int ((l.getD i .Z).nth 0).int ((l.getD i .Z).nth 1).int
def withinB (n l : List D) : Bool := (List.range n.length).all (inL n l)
def sWithin : Sum := ⟨[.slice i64, .slice (.arr 2 i64)], fun
  | [n, l] => some (n.list.length ≤ l.list.length)
  | _ => none, fun
  | [n, l] => .dat .bool (.B (withinB n.list l.list))
  | _ => .und⟩
theorem within_fun : FunOK c0 60 Try.f94 sWithin := fun n hn l _ h => by
  simp only [InR] at hn
  replace h : n.list.length ≤ l.list.length := h
  refine ⟨{ i : Nat // i ≤ n.list.length ∧ ∀ k, k < i → inL n.list l.list k = true }, 0, fun i => ([(7, .dat (.slice i64) n), (8, .dat i64 (.I n.list.length)), (9, .dat i64 (.I i.1)), (1, .dat (.slice (.arr 2 i64)) l)], []), fun i => n.list.length - i.1,
    ⟨0, by omega, fun k h => by omega⟩, ⟨[], rfl, ⟨rfl, rfl, rfl, rfl, trivial⟩, trivial⟩, ?_⟩
  intro x
  obtain ⟨i, hi, hp⟩ := x
  have hlt : ltB (i : Int) (n.list.length : Int) = true → i < n.list.length := fun h => by simp only [ltB_true] at h; omega
  have hge : ltB (i : Int) (n.list.length : Int) = false → i = n.list.length := fun h => by simp only [ltB_false] at h; omega
  refine ⟨fun h1 => ⟨?_, ?_, by decide, fun _ => ⟨?_, ?_⟩, fun _ => by decide, fun h2 => Bears.bool ?_, fun h2 => ?_⟩, fun h1 => Bears.bool ?_⟩
  · have := hlt h1; show 0 ≤ (i : Int) ∧ (i : Int) < n.list.length; omega
  · have := hlt h1; show 0 ≤ (i : Int) ∧ (i : Int) < l.list.length; omega
  · show 0 ≤ (i : Int); omega
  · have := hlt h1; show (i : Int) < l.list.length; omega
  · have hk := hlt h1
    replace h2 : (ltB (n.list.getD i .Z).int ((l.list.getD i .Z).nth 0).int || ltB ((l.list.getD i .Z).nth 1).int (n.list.getD i .Z).int) = true := h2
    show false = withinB n.list l.list
    symm
    rw [withinB, List.all_eq_false]
    exact ⟨i, by simpa using hk, by simp only [inL, out, h2]; decide⟩
  · have hk := hlt h1
    replace h2 : (ltB (n.list.getD i .Z).int ((l.list.getD i .Z).nth 0).int || ltB ((l.list.getD i .Z).nth 1).int (n.list.getD i .Z).int) = false := h2
    refine ⟨⟨i + 1, by omega, fun k hk2 => ?_⟩, ⟨[], rfl, ⟨rfl, rfl, slot (i64_1 (n := i) (by omega)), rfl, trivial⟩, trivial⟩, by show _ - (i + 1) < _ - i; omega⟩
    rcases Nat.lt_or_eq_of_le (Nat.le_of_lt_succ hk2) with h | rfl
    · exact hp k h
    · simp only [inL, out, h2]; rfl
  · have hk := hge h1
    show true = withinB n.list l.list
    symm
    rw [withinB, List.all_eq_true]
    intro k hk2
    exact hp k (by simp only [List.mem_range] at hk2; omega)
def sCl : Sum := ⟨[configS], fun _ => none, fun
  | [c] => .fn 93 [.gptr configS c]
  | _ => .und⟩
theorem classes_fun : FunOK c0 20 Try.f81 sCl := fun _ _ _ => ⟨rfl, Bears.rfl, trivial⟩
def sTn : Sum := ⟨[configS], fun _ => none, fun
  | [c] => .fn 95 [.gptr configS c]
  | _ => .und⟩
theorem tenants_fun : FunOK c0 20 Try.f82 sTn := fun _ _ _ => ⟨rfl, Bears.rfl, trivial⟩
def sRu : Sum := ⟨[configS], fun _ => none, fun
  | [c] => .fn 96 [.gptr configS c]
  | _ => .und⟩
theorem rules_fun : FunOK c0 20 Try.f83 sRu := fun _ _ _ => ⟨rfl, Bears.rfl, trivial⟩
noncomputable def cCheck : Ctx := ⟨tab, refs, [(81, sCl), (82, sTn), (83, sRu), (94, sWithin), (67, sBelow)],
  [(93, Try.f93), (95, Try.f95), (96, Try.f96)], keep, mps⟩
theorem mGet_mPut {z k v : D} {L : Int} : ∀ {es : List (D × D)}, mGet z L (mPut k v es) = if k.int = L then v else mGet z L es
  | [] => by simp [mPut, mGet]
  | (k', v') :: es => by
    have ih := mGet_mPut (z := z) (k := k) (v := v) (L := L) (es := es)
    simp only [mPut]
    by_cases h : k'.int = k.int
    · rw [if_pos h]
      simp only [mGet, h]
      split <;> rfl
    · rw [if_neg h]
      simp only [mGet, ih]
      by_cases h2 : k'.int = L
      · have : ¬ k.int = L := by omega
        simp [h2, this]
      · simp [h2]
theorem ft {P : Prop} (h : false = true) : P := by cases h
theorem tf {P : Prop} (h : true = false) : P := by cases h
theorem cl_within (x : D) : withinB [.I (x.nth 1).int, .I (x.nth 2).int] [.L [.I 1, .I 64], .L [.I 0, .I 64]] = !clBad x := by
  simp [withinB, inL, clBad, List.range_succ]
def lims : List D := [.L [.I 1, .I 64], .L [.I 0, .I 4], .L [.I 0, .I 64], .L [.I 0, .I 64], .L [.I 0, .I 64]]
theorem tn_within (x : D) : withinB [.I (x.nth 0).int, .I (x.nth 1).int, .I (x.nth 2).int, .I (x.nth 3).int, .I (x.nth 4).int] lims = !tnBad x := by
  simp [withinB, inL, tnBad, lims, List.range_succ, Bool.and_assoc]
theorem clE_2 {c : D} {i : Nat} (h : clBad (clsAt c i) = true) : clE c i = 2 := by
  show (if clBad (clsAt c i) = true then (2 : Int) else _) = 2
  rw [if_pos h]
theorem clE_8 {c : D} {i : Nat} (h : clBad (clsAt c i) = false) (h2 : ((List.range i).any fun k => labAt c k == labAt c i) = true) : clE c i = 8 := by
  show (if clBad (clsAt c i) = true then (2 : Int) else if ((List.range i).any fun k => labAt c k == labAt c i) = true then 8 else 0) = 8
  rw [if_neg (by rw [h]; decide), if_pos h2]
theorem clE_0 {c : D} {i : Nat} (h : clBad (clsAt c i) = false) (h2 : ((List.range i).any fun k => labAt c k == labAt c i) = false) : clE c i = 0 := by
  show (if clBad (clsAt c i) = true then (2 : Int) else if ((List.range i).any fun k => labAt c k == labAt c i) = true then 8 else 0) = 0
  rw [if_neg (by rw [h]; decide), if_neg (by rw [h2]; decide)]
abbrev fns (c : D) : List HV := [.fn 93 [.gptr configS c], .fn 95 [.gptr configS c], .fn 96 [.gptr configS c]]
theorem check_fun : FunOK cCheck 100 Try.f59 sCheckC := fun c hcr _ => by
  simp only [InR, InRs] at hcr
  have hn0 : nC c ≤ 9223372036854775807 := hcr.1.1
  have hn2 : nR c ≤ 9223372036854775807 := hcr.2.2.1.1
  refine ⟨fun h1 => ⟨Bears.int ?_, Bears.int ?_, trivial⟩, fun h1 => ⟨by show (3 : Nat) ≤ 1000; omega, by kernel_rfl, ?_⟩⟩
  all_goals replace h1 : fullB c = _ := h1
  · exact (ch_full h1).1.symm
  · exact (ch_full h1).2.symm
  refine ⟨{ i : Nat // i ≤ 3 ∧ (1 ≤ i → ∀ k, k < nC c → clE c k = 0) ∧ (2 ≤ i → ∀ k, k < 6 → tnE c k = 0) ∧ (3 ≤ i → ∀ k, k < nR c → ruE c k = 0) }, 21, fun i => ([(26, .dat i64 (.I i.1)), (25, .dat i64 (.I 3)), (24, .own 15 .ref), (3, .ptr 2 i64 [] i64), (2, .ptr 1 i64 [] i64), (1, .ptr 0 configS [] configS)],
    [(15, .vec (fns c)), (2, .box i64 (.dat i64 (.I 0))), (1, .box i64 (.dat i64 (.I 0))), (0, .box configS (.dat configS c))]), fun i => 3 - i.1,
    ⟨0, by omega, fun h => by omega, fun h => by omega, fun h => by omega⟩, ⟨[], rfl, ⟨rfl, rfl, rfl, rfl, rfl, rfl, trivial⟩, ⟨rfl, rfl, rfl, rfl, trivial⟩⟩, ?_⟩
  intro x
  obtain ⟨i, hi, hc, ht, hr⟩ := x
  obtain rfl | rfl | rfl | rfl : i = 0 ∨ i = 1 ∨ i = 2 ∨ i = 3 := by omega
  · refine ⟨fun _ => ⟨by show (0 : Int) ≤ 0 ∧ (0 : Int) < 3; omega, { x : Nat × List (D × D) // x.1 ≤ nC c ∧ (∀ k, k < x.1 → clE c k = 0) ∧ ∀ L, (mGet (.B false) L x.2).bool = (List.range x.1).any fun k => labAt c k == L }, 23,
      fun x => ([(11, .dat i64 (.I x.1.1)), (10, .dat i64 (.I (nC c))), (9, .dat (.slice classS) (c.nth 0)), (3, .mp 22 u64 .bool), (0, .yld 21), (1, .gptr configS c)], [(22, .map u64 .bool x.1.2), (21, .loop .ready), (15, .vec (fns c)), (2, .box i64 (.dat i64 (.I 0))), (1, .box i64 (.dat i64 (.I 0))), (0, .box configS (.dat configS c))]),
      fun x => nC c - x.1.1, ⟨(0, []), by omega, fun k h => by omega, fun L => rfl⟩, ⟨[], rfl, ⟨rfl, rfl, rfl, rfl, rfl, rfl, trivial⟩, ⟨rfl, rfl, rfl, rfl, rfl, rfl, trivial⟩⟩, ?_⟩, fun h1 => tf h1⟩
    intro x
    obtain ⟨⟨i, es⟩, hi, h0, hm⟩ := x
    simp only at hi h0 hm
    have hlt : ltB (i : Int) (nC c : Int) = true → i < nC c := fun h => by simp only [ltB_true] at h; omega
    have hge : ltB (i : Int) (nC c : Int) = false → i = nC c := fun h => by simp only [ltB_false] at h; omega
    refine ⟨fun h1 => ⟨?_, ?_, fun h2 => ⟨fun h3 => ⟨fun h4 => ⟨Bears.int ?_, Bears.int ?_, trivial⟩, fun h4 => tf h4⟩, fun h3 => tf h3⟩, fun h2 => ⟨fun h3 => ⟨fun h4 => ⟨fun h5 => ⟨Bears.int ?_, Bears.int ?_, trivial⟩, fun h5 => tf h5⟩, fun h4 => tf h4⟩, fun h3 => ⟨fun h4 => ft h4, fun h4 => ⟨fun h5 => ft h5, fun h5 => ?_⟩⟩⟩⟩, fun h1 => ?_⟩
    · have := hlt h1; show 0 ≤ (i : Int) ∧ (i : Int) < (nC c : Int); omega
    · exact Nat.le_refl 2
    · replace h2 : (!withinB [.I ((clsAt c i).nth 1).int, .I ((clsAt c i).nth 2).int] [.L [.I 1, .I 64], .L [.I 0, .I 64]]) = true := h2
      rw [cl_within, Bool.not_not] at h2
      have e := clE_2 h2
      show 2 = chE c
      rw [(ch_cls ‹fullB c = false› (hlt h1) h0 (by rw [e]; decide)).1, e]
    · replace h2 : (!withinB [.I ((clsAt c i).nth 1).int, .I ((clsAt c i).nth 2).int] [.L [.I 1, .I 64], .L [.I 0, .I 64]]) = true := h2
      rw [cl_within, Bool.not_not] at h2
      have e := clE_2 h2
      show (i : Int) = chA c
      rw [(ch_cls ‹fullB c = false› (hlt h1) h0 (by rw [e]; decide)).2]
    all_goals try replace h2 : (!withinB [.I ((clsAt c i).nth 1).int, .I ((clsAt c i).nth 2).int] [.L [.I 1, .I 64], .L [.I 0, .I 64]]) = false := h2
    all_goals try rw [cl_within, Bool.not_not] at h2
    all_goals try replace h3 : (mGet (.B false) (labAt c i) es).bool = _ := h3
    all_goals try rw [hm] at h3
    · have e := clE_8 h2 h3
      show 8 = chE c
      rw [(ch_cls ‹fullB c = false› (hlt h1) h0 (by rw [e]; decide)).1, e]
    · have e := clE_8 h2 h3
      show (i : Int) = chA c
      rw [(ch_cls ‹fullB c = false› (hlt h1) h0 (by rw [e]; decide)).2]
    · have hk := hlt h1
      have e := clE_0 h2 h3
      refine ⟨⟨(i + 1, mPut (.I (labAt c i)) (.B true) es), by show i + 1 ≤ _; omega, fun k hk2 => ?_, fun L => ?_⟩, ⟨[], rfl, ⟨slot (i64_1 (n := i) (by omega)), rfl, rfl, rfl, rfl, rfl, trivial⟩, ⟨rfl, rfl, rfl, rfl, rfl, rfl, trivial⟩⟩, by show _ - (i + 1) < _ - i; omega⟩
      · rcases Nat.lt_or_eq_of_le (Nat.le_of_lt_succ hk2) with h | rfl
        · exact h0 k h
        · exact e
      · show (mGet (.B false) L (mPut (.I (labAt c i)) (.B true) es)).bool = (List.range (i + 1)).any fun k => labAt c k == L
        rw [mGet_mPut, List.range_succ, List.any_append, ← hm]
        by_cases hL : labAt c i = L
        · rw [if_pos (show (D.I (labAt c i)).int = L from hL)]; simp [hL]
        · rw [if_neg (show ¬ (D.I (labAt c i)).int = L from hL)]; simp [hL]
    · have e := hge h1
      subst e
      exact ⟨⟨1, by omega, fun _ => h0, fun h => by omega, fun h => by omega⟩, ⟨[], rfl, ⟨rfl, rfl, rfl, rfl, rfl, rfl, trivial⟩, ⟨rfl, rfl, rfl, rfl, trivial⟩⟩, by show 3 - 1 < 3 - 0; omega⟩
  · refine ⟨fun _ => ⟨by show (0 : Int) ≤ 1 ∧ (1 : Int) < 3; omega, { i : Nat // i ≤ 6 ∧ ∀ k, k < i → tnE c k = 0 }, 23,
      fun i => ([(15, .dat i64 (.I i.1)), (14, .dat (.arr 6 tenS) (c.nth 1)), (3, .own 22 (.arr 2 i64)), (0, .yld 21), (1, .gptr configS c)], [(22, .grow (.arr 2 i64) lims), (21, .loop .ready), (15, .vec (fns c)), (2, .box i64 (.dat i64 (.I 0))), (1, .box i64 (.dat i64 (.I 0))), (0, .box configS (.dat configS c))]),
      fun i => 6 - i.1, ⟨0, by omega, fun k h => by omega⟩, ⟨[], rfl, ⟨rfl, rfl, rfl, rfl, rfl, trivial⟩, ⟨rfl, rfl, rfl, rfl, rfl, rfl, trivial⟩⟩, ?_⟩, fun h1 => tf h1⟩
    intro x
    obtain ⟨i, hi, h0⟩ := x
    have hlt : ltB (i : Int) 6 = true → i < 6 := fun h => by simp only [ltB_true] at h; omega
    have hge : ltB (i : Int) 6 = false → i = 6 := fun h => by simp only [ltB_false] at h; omega
    refine ⟨fun h1 => ⟨?_, ?_, fun h2 => ⟨fun h3 => ⟨fun h4 => ⟨Bears.int ?_, Bears.int ?_, trivial⟩, fun h4 => tf h4⟩, fun h3 => tf h3⟩, fun h2 => ⟨fun h3 => ft h3, fun h3 => ⟨fun h4 => ft h4, fun h4 => ?_⟩⟩⟩, fun h1 => ?_⟩
    · have := hlt h1; show 0 ≤ (i : Int) ∧ (i : Int) < ((6 : Nat) : Int); omega
    · exact Nat.le_refl 5
    · replace h2 : (!withinB [.I (((c.nth 1).nth i).nth 0).int, .I (((c.nth 1).nth i).nth 1).int, .I (((c.nth 1).nth i).nth 2).int, .I (((c.nth 1).nth i).nth 3).int, .I (((c.nth 1).nth i).nth 4).int] lims) = true := h2
      rw [tn_within, Bool.not_not] at h2
      have e : tnE c i = 2 := by simp only [tnE, h2, if_true]
      show 2 = chE c
      rw [(ch_ten ‹fullB c = false› (hc (by omega)) (hlt h1) h0 (by rw [e]; decide)).1, e]
    · replace h2 : (!withinB [.I (((c.nth 1).nth i).nth 0).int, .I (((c.nth 1).nth i).nth 1).int, .I (((c.nth 1).nth i).nth 2).int, .I (((c.nth 1).nth i).nth 3).int, .I (((c.nth 1).nth i).nth 4).int] lims) = true := h2
      rw [tn_within, Bool.not_not] at h2
      have e : tnE c i = 2 := by simp only [tnE, h2, if_true]
      show (i : Int) = chA c
      rw [(ch_ten ‹fullB c = false› (hc (by omega)) (hlt h1) h0 (by rw [e]; decide)).2]
    · replace h2 : (!withinB [.I (((c.nth 1).nth i).nth 0).int, .I (((c.nth 1).nth i).nth 1).int, .I (((c.nth 1).nth i).nth 2).int, .I (((c.nth 1).nth i).nth 3).int, .I (((c.nth 1).nth i).nth 4).int] lims) = false := h2
      rw [tn_within, Bool.not_not] at h2
      have e : tnE c i = 0 := by simp only [tnE, h2, Bool.false_eq_true, if_false]
      have hk := hlt h1
      refine ⟨⟨i + 1, by omega, fun k hk2 => ?_⟩, ⟨[], rfl, ⟨slot (i64_1 (n := i) (by omega)), rfl, rfl, rfl, rfl, trivial⟩, ⟨rfl, rfl, rfl, rfl, rfl, rfl, trivial⟩⟩, by show 6 - (i + 1) < 6 - i; omega⟩
      rcases Nat.lt_or_eq_of_le (Nat.le_of_lt_succ hk2) with h | rfl
      · exact h0 k h
      · exact e
    · have e := hge h1
      subst e
      exact ⟨⟨2, by omega, fun _ => hc (by omega), fun _ => h0, fun h => by omega⟩, ⟨[], rfl, ⟨rfl, rfl, rfl, rfl, rfl, rfl, trivial⟩, ⟨rfl, rfl, rfl, rfl, trivial⟩⟩, by show 3 - 2 < 3 - 1; omega⟩
  · refine ⟨fun _ => ⟨by show (0 : Int) ≤ 2 ∧ (2 : Int) < 3; omega, { i : Nat // i ≤ nR c ∧ ∀ k, k < i → ruE c k = 0 }, 22,
      fun i => ([(9, .dat i64 (.I i.1)), (8, .dat i64 (.I (nR c))), (7, .dat (.slice ruleS) (c.nth 2)), (0, .yld 21), (1, .gptr configS c)], [(21, .loop .ready), (15, .vec (fns c)), (2, .box i64 (.dat i64 (.I 0))), (1, .box i64 (.dat i64 (.I 0))), (0, .box configS (.dat configS c))]),
      fun i => nR c - i.1, ⟨0, by omega, fun k h => by omega⟩, ⟨[], rfl, ⟨rfl, rfl, rfl, rfl, rfl, trivial⟩, ⟨rfl, rfl, rfl, rfl, rfl, trivial⟩⟩, ?_⟩, fun h1 => tf h1⟩
    intro x
    obtain ⟨i, hi, h0⟩ := x
    have hlt : ltB (i : Int) (nR c : Int) = true → i < nR c := fun h => by simp only [ltB_true] at h; omega
    have hge : ltB (i : Int) (nR c : Int) = false → i = nR c := fun h => by simp only [ltB_false] at h; omega
    have fin : ∀ n : Int, n ≠ 0 → i < nR c → ruE c i = n → n = chE c ∧ (i : Int) = chA c := fun n hn hk e => by
      have := ch_rul ‹fullB c = false› (hc (by omega)) (ht (by omega)) hk h0 (by rw [e]; exact hn)
      rw [e] at this
      exact ⟨this.1.symm, this.2.symm⟩
    refine ⟨fun h1 => ⟨?_, fun h2 => ⟨fun h3 => ⟨fun h4 => ⟨Bears.int ?_, Bears.int ?_, trivial⟩, fun h4 => tf h4⟩, fun h3 => tf h3⟩, fun h2 => ⟨fun h3 => ⟨fun h4 => ⟨fun h5 => ⟨Bears.int ?_, Bears.int ?_, trivial⟩, fun h5 => tf h5⟩, fun h4 => tf h4⟩, fun h3 => ⟨fun h4 => ⟨fun h5 => ⟨fun h6 => ⟨Bears.int ?_, Bears.int ?_, trivial⟩, fun h6 => tf h6⟩, fun h5 => tf h5⟩, fun h4 => ⟨fun h5 => ft h5, fun h5 => ⟨fun h6 => ft h6, fun h6 => ?_⟩⟩⟩⟩⟩, fun h1 => ?_⟩
    · have := hlt h1; show 0 ≤ (i : Int) ∧ (i : Int) < (nR c : Int); omega
    all_goals try replace h2 : badOwner (rlsAt c i) = _ := h2
    · exact (fin 2 (by decide) (hlt h1) (by simp only [ruE, ruF, h2, if_true])).1
    · exact (fin 2 (by decide) (hlt h1) (by simp only [ruE, ruF, h2, if_true])).2
    all_goals try replace h3 : (!belowB ((rlsAt c i).nth 2).int ((rlsAt c i).nth 1).int) = _ := h3
    all_goals try simp only [Bool.not_eq_true', Bool.not_eq_false'] at h3
    · exact (fin 13 (by decide) (hlt h1) (by simp only [ruE, ruF, h2, h3, Bool.false_eq_true, if_false, if_true])).1
    · exact (fin 13 (by decide) (hlt h1) (by simp only [ruE, ruF, h2, h3, Bool.false_eq_true, if_false, if_true])).2
    all_goals try replace h4 : ltB ((rlsAt c i).nth 6).int ((rlsAt c i).nth 5).int = _ := h4
    all_goals try simp only [ltB_true, ltB_false] at h4
    · exact (fin 9 (by decide) (hlt h1) (by simp only [ruE, ruF, h2, h3, Bool.false_eq_true, Bool.true_eq_false, if_false]; rw [if_pos (by omega)])).1
    · exact (fin 9 (by decide) (hlt h1) (by simp only [ruE, ruF, h2, h3, Bool.false_eq_true, Bool.true_eq_false, if_false]; rw [if_pos (by omega)])).2
    · have e : ruE c i = 0 := by simp only [ruE, ruF, h2, h3, Bool.false_eq_true, Bool.true_eq_false, if_false]; rw [if_neg (by omega)]
      have hk := hlt h1
      refine ⟨⟨i + 1, by omega, fun k hk2 => ?_⟩, ⟨[], rfl, ⟨slot (i64_1 (n := i) (by omega)), rfl, rfl, rfl, rfl, trivial⟩, ⟨rfl, rfl, rfl, rfl, rfl, trivial⟩⟩, by show _ - (i + 1) < _ - i; omega⟩
      rcases Nat.lt_or_eq_of_le (Nat.le_of_lt_succ hk2) with h | rfl
      · exact h0 k h
      · exact e
    · have e := hge h1
      subst e
      exact ⟨⟨3, by omega, fun _ => hc (by omega), fun _ => ht (by omega), fun _ => h0⟩, ⟨[], rfl, ⟨rfl, rfl, rfl, rfl, rfl, rfl, trivial⟩, ⟨rfl, rfl, rfl, rfl, trivial⟩⟩, by show 3 - 3 < 3 - 2; omega⟩
  · refine ⟨fun h1 => ft h1, fun h1 => ⟨fun h2 => ⟨Bears.int ?_, Bears.int ?_, trivial⟩, fun h2 => ⟨Bears.int ?_, Bears.int ?_, trivial⟩⟩⟩
    all_goals have hh := ch_hor ‹fullB c = false› (hc (by omega)) (ht (by omega)) (hr (by omega))
    all_goals replace h2 : horBad c = _ := h2
    all_goals rw [h2] at hh
    · exact hh.1.symm
    · exact hh.2.symm
    · exact hh.1.symm
    · exact hh.2.symm
end Go.Proofs.Ytelemmagiagohaa.Cf
