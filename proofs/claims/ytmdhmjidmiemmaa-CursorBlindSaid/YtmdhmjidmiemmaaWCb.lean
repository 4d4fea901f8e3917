/- Accounts of configurations: the program's Check. -/
import Derived.Test.YtmdhmjidmiemmaaWCa
namespace Go.Proofs.Ytmdhmjidmiemmaa.Cf
open Go Go.Vm
set_option linter.unusedSimpArgs false
set_option maxRecDepth 10000

def tab : List (Nat × Sh) := [(84, configS), (78, .slice classS), (111, classS), (81, .arr 6 tenS), (80, tenS), (82, .slice ruleS), (114, ruleS),
  (23, u64), (3, i64), (2, i64), (4, .bool), (32, i64), (22, .slice i64), (29, .slice u64)]
def refs : List (Nat × Value) := []
def mps : List (Nat × MI) := [(140, .map u64 .bool)]
def c0 : Ctx := ⟨tab, refs, [], [], keep, mps⟩

def sBelow : Sum := ⟨[u64, u64], fun _ => none, fun
  | [a, b] => .dat .bool (.B (belowB a.int b.int))
  | _ => .und⟩
theorem belowR_fun : FunOK c0 20 Try.f99 sBelow := fun _ _ _ _ _ => Bears.rfl

/-- The numbers are within their limits. -/
def inL (n l : List D) (i : Nat) : Bool := !out (n.getD i .Z).int ((l.getD i .Z).nth 0).int ((l.getD i .Z).nth 1).int
def withinB (n l : List D) : Bool := (List.range n.length).all (inL n l)
def sWithin : Sum := ⟨[.slice i64, .slice (.arr 2 i64)], fun
  | [n, l] => some (n.list.length ≤ l.list.length)
  | _ => none, fun
  | [n, l] => .dat .bool (.B (withinB n.list l.list))
  | _ => .und⟩
theorem mGet_mPut {z k v : D} {L : Int} : ∀ {es : List (D × D)}, mGet z L (mPut k v es) = if k.int = L then v else mGet z L es
  | [] => by simp [mPut, mGet]
  | (k', v') :: es => by
    have ih := mGet_mPut (z := z) (k := k) (v := v) (L := L) (es := es)
    simp only [mPut]
    by_cases h : k'.int = k.int
    · rw [if_pos h]
      simp only [mGet, h]
      split <;> rfl
    · rw [if_neg h]
      simp only [mGet, ih]
      by_cases h2 : k'.int = L
      · have : ¬ k.int = L := by omega
        simp [h2, this]
      · simp [h2]
theorem ft {P : Prop} (h : false = true) : P := by cases h
theorem tf {P : Prop} (h : true = false) : P := by cases h
theorem cl_within (x : D) : withinB [.I (x.nth 1).int, .I (x.nth 2).int] [.L [.I 1, .I 64], .L [.I 0, .I 64]] = !clBad x := by
  simp [withinB, inL, clBad, List.range_succ]
def lims : List D := [.L [.I 1, .I 64], .L [.I 0, .I 4], .L [.I 0, .I 64], .L [.I 0, .I 64], .L [.I 0, .I 64]]
theorem tn_within (x : D) : withinB [.I (x.nth 0).int, .I (x.nth 1).int, .I (x.nth 2).int, .I (x.nth 3).int, .I (x.nth 4).int] lims = !tnBad x := by
  simp [withinB, inL, tnBad, lims, List.range_succ, Bool.and_assoc]
theorem clE_2 {c : D} {i : Nat} (h : clBad (clsAt c i) = true) : clE c i = 2 := by
  show (if clBad (clsAt c i) = true then (2 : Int) else _) = 2
  rw [if_pos h]
theorem clE_8 {c : D} {i : Nat} (h : clBad (clsAt c i) = false) (h2 : ((List.range i).any fun k => labAt c k == labAt c i) = true) : clE c i = 8 := by
  show (if clBad (clsAt c i) = true then (2 : Int) else if ((List.range i).any fun k => labAt c k == labAt c i) = true then 8 else 0) = 8
  rw [if_neg (by rw [h]; decide), if_pos h2]
theorem clE_0 {c : D} {i : Nat} (h : clBad (clsAt c i) = false) (h2 : ((List.range i).any fun k => labAt c k == labAt c i) = false) : clE c i = 0 := by
  show (if clBad (clsAt c i) = true then (2 : Int) else if ((List.range i).any fun k => labAt c k == labAt c i) = true then 8 else 0) = 0
  rw [if_neg (by rw [h]; decide), if_neg (by rw [h2]; decide)]
end Go.Proofs.Ytmdhmjidmiemmaa.Cf
