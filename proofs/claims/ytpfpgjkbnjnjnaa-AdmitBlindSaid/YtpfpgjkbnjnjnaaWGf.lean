/- Accounts of rings: the kit's comparison, the law's helpers, 'RingLooks'. -/
import Derived.Test.YtpfpgjkbnjnjnaaWGe
namespace Go.Proofs.Ytpfpgjkbnjnjnaa.Rg
open Go Go.Vm
set_option linter.unusedSimpArgs false
set_option maxRecDepth 10000

def sameB (a b : D) : Bool := a.list.length == b.list.length && (List.range a.list.length).all fun j => eqD storedS (a.list.getD j .Z) (b.list.getD j .Z)
def sSame : Sum := ⟨[.slice storedS, .slice storedS], fun _ => none, fun
  | [a, b] => .dat .bool (.B (sameB a b))
  | _ => .und⟩
theorem eqStored (d : D) : eqD storedS d d = true := by simp [eqD, eqDs]
theorem sameB_rfl (a : D) : sameB a a = true := by
  simp [sameB, eqStored]
theorem same_fun : FunOK c0 60 Try.f26 sSame := fun a ha b hb _ => by
  simp only [InR] at ha hb
  refine ⟨fun h1 => Bears.bool ?_, fun h1 => ?_⟩
  all_goals replace h1 : ((a.list.length : Int) != (b.list.length : Int)) = _ := h1
  all_goals simp only [bne_iff_ne, ne_eq, bne_eq_false_iff_eq, Int.natCast_inj] at h1
  · show false = sameB a b
    have : (a.list.length == b.list.length) = false := by simp [h1]
    simp [sameB, this]
  refine ⟨{ i : Nat // i ≤ a.list.length ∧ ∀ k, k < i → eqD storedS (a.list.getD k .Z) (b.list.getD k .Z) = true }, 0, fun i => ([(0, .dat (.slice storedS) a), (1, .dat (.slice storedS) b), (5, .dat i64 (.I i.1))], []), fun i => a.list.length - i.1,
    ⟨0, by omega, fun k h => by omega⟩, ⟨[], rfl, ⟨rfl, rfl, rfl, trivial⟩, trivial⟩, ?_⟩
  intro x
  obtain ⟨i, hi, he⟩ := x
  refine ⟨fun h2 => ⟨?_, ?_, by kernel_rfl, fun h3 => Bears.bool ?_, fun h3 => ?_⟩, fun h2 => Bears.bool ?_⟩
  all_goals replace h2 : ltB (i : Int) (a.list.length : Int) = _ := h2
  all_goals simp only [ltB_true, ltB_false] at h2
  · show 0 ≤ (i : Int) ∧ (i : Int) < (a.list.length : Int)
    omega
  · show 0 ≤ (i : Int) ∧ (i : Int) < (b.list.length : Int)
    omega
  · replace h3 : (!eqD storedS (a.list.getD i .Z) (b.list.getD i .Z)) = true := h3
    simp only [Bool.not_eq_true'] at h3
    show false = sameB a b
    symm
    rw [Bool.eq_false_iff]
    intro h
    simp only [sameB, Bool.and_eq_true, List.all_eq_true, List.mem_range] at h
    have := h.2 i (by omega)
    rw [h3] at this; cases this
  · replace h3 : (!eqD storedS (a.list.getD i .Z) (b.list.getD i .Z)) = false := h3
    simp only [Bool.not_eq_false'] at h3
    refine ⟨⟨i + 1, by omega, fun k hk => ?_⟩, ⟨[], rfl, ⟨rfl, rfl, congrArg some (succ_i64 (n := i) (by omega)), trivial⟩, trivial⟩, ?_⟩
    · rcases Nat.lt_or_eq_of_le (Nat.le_of_lt_succ hk) with h | rfl
      · exact he k h
      · exact h3
    · show a.list.length - (i + 1) < a.list.length - i
      omega
  · show true = sameB a b
    symm
    simp only [sameB, Bool.and_eq_true, List.all_eq_true, List.mem_range, beq_iff_eq]
    exact ⟨h1, fun k hk => he k (by omega)⟩

/-! ### The law's helpers -/
def newR (l s : Int) : D := if ltB s 1 || ltB 64 s then D0 ringS else .L [.I l, .I s, .I 1, .I 1, D0 (.arr 64 storedS)]
def oneD : D := putR (newR 2 2) 1 0 0 5
def sOne : Sum := ⟨[], fun _ => none, fun _ => .dat ringS oneD⟩
def cOne : Ctx := ⟨tab, [], [(59, sNew), (72, sPut)], [], keep, []⟩
def evD (n o t v : Int) : D := .L [idD 2 n, .I o, .I t, .I 0, .I v]
def sEv : Sum := ⟨[u64, u64, u64, i64], fun _ => none, fun
  | [n, o, t, v] => .dat storedS (evD n.int o.int t.int v.int)
  | _ => .und⟩
def slostB (r : D) (n w : Int) : Bool := lostE r n == 0 && lostI r n == w
def sLostB : Sum := ⟨[ringS, u64, u64], fun _ => none, fun
  | [r, n, w] => .dat .bool (.B (slostB r n.int w.int))
  | _ => .und⟩
def cLostB : Ctx := ⟨tab, [], [], [], keep, []⟩
def sTrue : Sum := ⟨[], fun _ => none, fun _ => .dat .bool (.B true)⟩
def cAwake : Ctx := ⟨tab, [], [(73, sGet)], [], keep, []⟩
/-! ### RingLooks -/
def cLooks : Ctx := ⟨tab, [], [(92, sLen), (75, sListP), (26, sSame), (73, sGet), (93, sFrom)], [], keep, []⟩
def sLooks : Sum := ⟨[ringS, u64], fun _ => none, fun _ => .dat .bool (.B true)⟩
end Go.Proofs.Ytpfpgjkbnjnjnaa.Rg
