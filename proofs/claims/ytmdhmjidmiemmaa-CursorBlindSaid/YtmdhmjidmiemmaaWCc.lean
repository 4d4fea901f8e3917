/- Accounts of configurations: the reference's Check. -/
import Derived.Test.YtmdhmjidmiemmaaWCb
namespace Go.Proofs.Ytmdhmjidmiemmaa.Cf
open Go Go.Vm
set_option linter.unusedSimpArgs false
set_option maxRecDepth 10000
def inB (n a b : Int) : Bool := leB a n && leB n b
theorem inB_out (n a b : Int) : inB n a b = !out n a b := by
  simp only [inB, out, leB, ltB, Bool.not_or]
  congr 1 <;> (rw [← decide_not]; congr 1; simp)
def sFrom : Sum := ⟨[i64, i64, i64], fun _ => none, fun
  | [n, a, b] => .dat .bool (.B (inB n.int a.int b.int))
  | _ => .und⟩
theorem from_fun : FunOK c0 20 Try.f98 sFrom := fun _ _ _ _ _ _ _ => Bears.rfl
def cR1 : Ctx := ⟨tab, refs, [(98, sFrom), (99, sBelow)], [], keep, mps⟩
def sTen : Sum := ⟨[tenS], fun _ => none, fun
  | [t] => .dat .bool (.B (!tnBad t))
  | _ => .und⟩
theorem tenant_fun : FunOK cR1 30 Try.f80 sTen := fun t _ _ => by
  refine Bears.bool ?_
  show (inB (t.nth 0).int 1 64 && inB (t.nth 1).int 0 4 && inB (t.nth 2).int 0 64 && inB (t.nth 3).int 0 64 && inB (t.nth 4).int 0 64) = !tnBad t
  simp only [inB_out, tnBad, Bool.not_or]
def sRule : Sum := ⟨[ruleS], fun _ => none, fun
  | [r] => .dat i64 (.I (ruF r))
  | _ => .und⟩
theorem rule_fun : FunOK cR1 40 Try.f81 sRule := fun r _ _ => by
  have hb : (!inB (r.nth 0).int 1 6 || !inB (r.nth 4).int 0 25 || ((r.nth 3).bool && (r.nth 4).int != 0)) = badOwner r := by
    simp only [inB_out, out, badOwner, Bool.not_not, Bool.or_assoc]
  refine ⟨fun h1 => Bears.int ?_, fun h1 => ⟨fun h2 => Bears.int ?_, fun h2 => ⟨fun h3 => Bears.int ?_, fun h3 => Bears.int ?_⟩⟩⟩
  all_goals replace h1 : (!inB (r.nth 0).int 1 6 || !inB (r.nth 4).int 0 25 || ((r.nth 3).bool && (r.nth 4).int != 0)) = _ := h1
  all_goals rw [hb] at h1
  · show 2 = ruF r
    simp only [ruF, h1, if_true]
  all_goals replace h2 : (!belowB (r.nth 2).int (r.nth 1).int) = _ := h2
  all_goals simp only [Bool.not_eq_true', Bool.not_eq_false'] at h2
  · show 13 = ruF r
    simp only [ruF, h1, h2, Bool.false_eq_true, if_false, if_true]
  all_goals replace h3 : ltB (r.nth 6).int (r.nth 5).int = _ := h3
  all_goals simp only [ltB_true, ltB_false] at h3
  · show 9 = ruF r
    simp only [ruF, h1, h2, Bool.false_eq_true, Bool.true_eq_false, if_false]; rw [if_pos (by omega)]
  · show 0 = ruF r
    simp only [ruF, h1, h2, Bool.false_eq_true, Bool.true_eq_false, if_false]; rw [if_neg (by omega)]
def sClass : Sum := ⟨[.slice classS, i64], fun
  | [l, i] => some (0 ≤ i.int ∧ i.int < l.list.length)
  | _ => none, fun
  | [l, i] => .dat i64 (.I (clEL l.list i.int.toNat))
  | _ => .und⟩
theorem class_fun : FunOK cR1 60 Try.f79 sClass := fun l hl i hi h => by
  replace h : 0 ≤ i.int ∧ i.int < l.list.length := h
  simp only [InR] at hl
  have hl0 := hl.1
  clear hl
  have hb : (!inB ((l.list.getD i.int.toNat .Z).nth 1).int 1 64 || !inB ((l.list.getD i.int.toNat .Z).nth 2).int 0 64) = clBad (l.list.getD i.int.toNat .Z) := by
    simp only [inB_out, clBad, Bool.not_not]
  refine ⟨h, fun _ => h, fun h1 => Bears.int ?_, fun h1 => ?_⟩
  all_goals replace h1 : (!inB ((l.list.getD i.int.toNat .Z).nth 1).int 1 64 || !inB ((l.list.getD i.int.toNat .Z).nth 2).int 0 64) = _ := h1
  all_goals rw [hb] at h1
  · show 2 = clEL l.list i.int.toNat
    simp only [clEL, h1, if_true]
  refine ⟨{ k : Nat // k ≤ i.int.toNat ∧ ∀ j, j < k → (labL l.list j == labL l.list i.int.toNat) = false }, 0, fun k => ([(5, .dat i64 (.I k.1)), (0, .dat (.slice classS) l), (1, .dat i64 (.I i.int))], []), fun k => i.int.toNat - k.1,
    ⟨0, by omega, fun j h => by omega⟩, ⟨[], rfl, ⟨rfl, rfl, rfl, trivial⟩, trivial⟩, ?_⟩
  intro x
  obtain ⟨k, hk, h0⟩ := x
  have hlt : ltB (k : Int) i.int = true → k < i.int.toNat := fun h => by simp only [ltB_true] at h; omega
  have hge : ltB (k : Int) i.int = false → k = i.int.toNat := fun h => by simp only [ltB_false] at h; omega
  refine ⟨fun h1 => ⟨?_, h, by kernel_rfl, fun h2 => Bears.int ?_, fun h2 => ?_⟩, fun h1 => Bears.int ?_⟩
  · have := hlt h1; show 0 ≤ (k : Int) ∧ (k : Int) < l.list.length; omega
  · replace h2 : (labL l.list k == labL l.list i.int.toNat) = true := h2
    have hd : dupL l.list i.int.toNat = true := by
      simp only [dupL, List.any_eq_true, List.mem_range]
      exact ⟨k, hlt h1, h2⟩
    show 8 = clEL l.list i.int.toNat
    simp only [clEL, ‹clBad (l.list.getD i.int.toNat .Z) = false›, hd, Bool.false_eq_true, if_false, if_true]
  · replace h2 : (labL l.list k == labL l.list i.int.toNat) = false := h2
    have hk2 := hlt h1
    refine ⟨⟨k + 1, by omega, fun j hj => ?_⟩, ⟨[], rfl, ⟨slot (i64_1 (n := k) (by omega)), rfl, rfl, trivial⟩, trivial⟩, by show _ - (k + 1) < _ - k; omega⟩
    rcases Nat.lt_or_eq_of_le (Nat.le_of_lt_succ hj) with h | rfl
    · exact h0 j h
    · exact h2
  · have e := hge h1
    have hd : dupL l.list i.int.toNat = false := by
      simp only [dupL, List.any_eq_false, List.mem_range, Bool.not_eq_true]
      intro j hj
      exact h0 j (by omega)
    show 0 = clEL l.list i.int.toNat
    simp only [clEL, ‹clBad (l.list.getD i.int.toNat .Z) = false›, hd, Bool.false_eq_true, if_false]
def cR2 : Ctx := ⟨tab, refs, [(79, sClass), (80, sTen), (81, sRule)], [], keep, mps⟩
theorem checkR_fun : FunOK cR2 80 Try.f61 sCheckC := fun c hcr _ => by
  simp only [InR, InRs] at hcr
  have hn0 : nC c ≤ 9223372036854775807 := hcr.1.1
  have hn2 : nR c ≤ 9223372036854775807 := hcr.2.2.1.1
  clear hcr
  refine ⟨fun h1 => ⟨Bears.int ?_, Bears.int ?_, trivial⟩, fun h1 => ?_⟩
  all_goals replace h1 : fullB c = _ := h1
  · exact (ch_full h1).1.symm
  · exact (ch_full h1).2.symm
  refine ⟨{ i : Nat // i ≤ nC c ∧ ∀ k, k < i → clE c k = 0 }, 1, fun i => ([(4, .dat i64 (.I i.1)), (1, .ptr 0 configS [] configS)], [(0, .box configS (.dat configS c))]), fun i => nC c - i.1,
    ⟨0, by omega, fun k h => by omega⟩, ⟨[], rfl, ⟨rfl, rfl, trivial⟩, ⟨rfl, trivial⟩⟩, ?_⟩
  intro x
  obtain ⟨i, hi, h0⟩ := x
  have hlt : ltB (i : Int) (nC c : Int) = true → i < nC c := fun h => by simp only [ltB_true] at h; omega
  have hge : ltB (i : Int) (nC c : Int) = false → i = nC c := fun h => by simp only [ltB_false] at h; omega
  refine ⟨fun h1 => ⟨?_, fun h2 => ⟨Bears.int ?_, Bears.int ?_, trivial⟩, fun h2 => ?_⟩, fun h1 => ?_⟩
  · have := hlt h1; show 0 ≤ (i : Int) ∧ (i : Int) < (nC c : Int); omega
  all_goals try replace h2 : (clE c i != 0) = _ := h2
  all_goals try simp only [bne_iff_ne, ne_eq, bne_eq_false_iff_eq] at h2
  · exact (ch_cls ‹fullB c = false› (hlt h1) h0 h2).1.symm
  · exact (ch_cls ‹fullB c = false› (hlt h1) h0 h2).2.symm
  · have hk := hlt h1
    refine ⟨⟨i + 1, by omega, fun k hk2 => ?_⟩, ⟨[], rfl, ⟨slot (i64_1 (n := i) (by omega)), rfl, trivial⟩, ⟨rfl, trivial⟩⟩, by show _ - (i + 1) < _ - i; omega⟩
    rcases Nat.lt_or_eq_of_le (Nat.le_of_lt_succ hk2) with h | rfl
    · exact h0 k h
    · exact h2
  have e := hge h1
  subst e
  clear h1 hlt hge
  refine ⟨{ i : Nat // i ≤ 6 ∧ ∀ k, k < i → tnE c k = 0 }, 1, fun i => ([(6, .dat i64 (.I i.1)), (1, .ptr 0 configS [] configS)], [(0, .box configS (.dat configS c))]), fun i => 6 - i.1,
    ⟨0, by omega, fun k h => by omega⟩, ⟨[], rfl, ⟨rfl, rfl, trivial⟩, ⟨rfl, trivial⟩⟩, ?_⟩
  intro x
  obtain ⟨i, hi, h6⟩ := x
  have hlt : ltB (i : Int) 6 = true → i < 6 := fun h => by simp only [ltB_true] at h; omega
  have hge : ltB (i : Int) 6 = false → i = 6 := fun h => by simp only [ltB_false] at h; omega
  refine ⟨fun h1 => ⟨?_, fun h2 => ⟨Bears.int ?_, Bears.int ?_, trivial⟩, fun h2 => ?_⟩, fun h1 => ?_⟩
  · have := hlt h1; show 0 ≤ (i : Int) ∧ (i : Int) < ((6 : Nat) : Int); omega
  all_goals try replace h2 : (!!tnBad ((c.nth 1).nth i)) = _ := h2
  all_goals try rw [Bool.not_not] at h2
  · have e : tnE c i = 2 := by simp only [tnE, h2, if_true]
    show 2 = chE c
    rw [(ch_ten ‹fullB c = false› h0 (hlt h1) h6 (by rw [e]; decide)).1, e]
  · have e : tnE c i = 2 := by simp only [tnE, h2, if_true]
    show (i : Int) = chA c
    rw [(ch_ten ‹fullB c = false› h0 (hlt h1) h6 (by rw [e]; decide)).2]
  · have hk := hlt h1
    have e : tnE c i = 0 := by simp only [tnE, h2, Bool.false_eq_true, if_false]
    refine ⟨⟨i + 1, by omega, fun k hk2 => ?_⟩, ⟨[], rfl, ⟨slot (i64_1 (n := i) (by omega)), rfl, trivial⟩, ⟨rfl, trivial⟩⟩, by show 6 - (i + 1) < 6 - i; omega⟩
    rcases Nat.lt_or_eq_of_le (Nat.le_of_lt_succ hk2) with h | rfl
    · exact h6 k h
    · exact e
  have e := hge h1
  subst e
  clear h1 hlt hge
  refine ⟨{ i : Nat // i ≤ nR c ∧ ∀ k, k < i → ruE c k = 0 }, 1, fun i => ([(7, .dat i64 (.I i.1)), (1, .ptr 0 configS [] configS)], [(0, .box configS (.dat configS c))]), fun i => nR c - i.1,
    ⟨0, by omega, fun k h => by omega⟩, ⟨[], rfl, ⟨rfl, rfl, trivial⟩, ⟨rfl, trivial⟩⟩, ?_⟩
  intro x
  obtain ⟨i, hi, h7⟩ := x
  have hlt : ltB (i : Int) (nR c : Int) = true → i < nR c := fun h => by simp only [ltB_true] at h; omega
  have hge : ltB (i : Int) (nR c : Int) = false → i = nR c := fun h => by simp only [ltB_false] at h; omega
  refine ⟨fun h1 => ⟨?_, fun h2 => ⟨Bears.int ?_, Bears.int ?_, trivial⟩, fun h2 => ?_⟩, fun h1 => ⟨fun h2 => ⟨Bears.int ?_, Bears.int ?_, trivial⟩, fun h2 => ⟨Bears.int ?_, Bears.int ?_, trivial⟩⟩⟩
  · have := hlt h1; show 0 ≤ (i : Int) ∧ (i : Int) < (nR c : Int); omega
  · replace h2 : (ruE c i != 0) = true := h2
    simp only [bne_iff_ne, ne_eq] at h2
    exact (ch_rul ‹fullB c = false› h0 h6 (hlt h1) h7 h2).1.symm
  · replace h2 : (ruE c i != 0) = true := h2
    simp only [bne_iff_ne, ne_eq] at h2
    exact (ch_rul ‹fullB c = false› h0 h6 (hlt h1) h7 h2).2.symm
  · replace h2 : (ruE c i != 0) = false := h2
    simp only [bne_eq_false_iff_eq] at h2
    have hk := hlt h1
    refine ⟨⟨i + 1, by omega, fun k hk2 => ?_⟩, ⟨[], rfl, ⟨slot (i64_1 (n := i) (by omega)), rfl, trivial⟩, ⟨rfl, trivial⟩⟩, by show _ - (i + 1) < _ - i; omega⟩
    rcases Nat.lt_or_eq_of_le (Nat.le_of_lt_succ hk2) with h | rfl
    · exact h7 k h
    · exact h2
  all_goals have e := hge h1
  all_goals subst e
  all_goals have hh := ch_hor ‹fullB c = false› h0 h6 h7
  all_goals replace h2 : horBad c = _ := h2
  all_goals rw [h2] at hh
  · exact hh.1.symm
  · exact hh.2.symm
  · exact hh.1.symm
  · exact hh.2.symm
theorem mixed : Try.prog.follows .mixedOrders = true := by kernel_rfl
theorem tabOK : tabB Try.prog tab = true := by kernel_rfl
theorem refsOK : refsB Try.prog refs = true := by kernel_rfl
theorem mpsOK : mapsB Try.prog mps = true := by kernel_rfl
theorem ctxOK {l : List (Nat × Sum)} (h : SumsOK Try.prog l) : CtxOK Try.prog ⟨tab, refs, l, [], keep, mps⟩ := CtxOK.of tabOK refsOK h FunsOK.nil mpsOK
theorem belowR_ok : SumOK Try.prog 99 sBelow := sumOK_of_vc (c := c0) (ctxOK .nil) mixed Try.func99 rfl (by decide) @belowR_fun
theorem from_ok : SumOK Try.prog 98 sFrom := sumOK_of_vc (c := c0) (ctxOK .nil) mixed Try.func98 rfl (by decide) @from_fun
theorem tenant_ok : SumOK Try.prog 80 sTen := sumOK_of_vc (c := cR1) (ctxOK (.cons from_ok (.cons belowR_ok .nil))) mixed Try.func80 rfl (by decide) @tenant_fun
theorem rule_ok : SumOK Try.prog 81 sRule := sumOK_of_vc (c := cR1) (ctxOK (.cons from_ok (.cons belowR_ok .nil))) mixed Try.func81 rfl (by decide) @rule_fun
theorem class_ok : SumOK Try.prog 79 sClass := sumOK_of_vc (c := cR1) (ctxOK (.cons from_ok (.cons belowR_ok .nil))) mixed Try.func79 rfl (by decide) @class_fun
theorem checkR_ok : SumOK Try.prog 61 sCheckC := sumOK_of_vc (c := cR2) (ctxOK (.cons class_ok (.cons tenant_ok (.cons rule_ok .nil)))) mixed Try.func61 rfl (by decide) @checkR_fun
end Go.Proofs.Ytmdhmjidmiemmaa.Cf
