/- Accounts of rings: the kit's comparison, the law's helpers, 'RingLooks'. -/
import Derived.Test.YtmdhmjidmiemmaaWGe
namespace Go.Proofs.Ytmdhmjidmiemmaa.Rg
open Go Go.Vm
set_option linter.unusedSimpArgs false
set_option maxRecDepth 10000

def sameB (a b : D) : Bool := a.list.length == b.list.length && (List.range a.list.length).all fun j => eqD storedS (a.list.getD j .Z) (b.list.getD j .Z)
def sSame : Sum := ⟨[.slice storedS, .slice storedS], fun _ => none, fun
  | [a, b] => .dat .bool (.B (sameB a b))
  | _ => .und⟩
theorem eqStored (d : D) : eqD storedS d d = true := by simp [eqD, eqDs]
theorem sameB_rfl (a : D) : sameB a a = true := by
  simp [sameB, eqStored]
/-! ### The law's helpers -/
def newR (l s : Int) : D := if ltB s 1 || ltB 64 s then D0 ringS else .L [.I l, .I s, .I 1, .I 1, D0 (.arr 64 storedS)]
def oneD : D := putR (newR 2 2) 1 0 0 5
def sOne : Sum := ⟨[], fun _ => none, fun _ => .dat ringS oneD⟩
def evD (n o t v : Int) : D := .L [idD 2 n, .I o, .I t, .I 0, .I v]
def sEv : Sum := ⟨[u64, u64, u64, i64], fun _ => none, fun
  | [n, o, t, v] => .dat storedS (evD n.int o.int t.int v.int)
  | _ => .und⟩
def slostB (r : D) (n w : Int) : Bool := lostE r n == 0 && lostI r n == w
def sLostB : Sum := ⟨[ringS, u64, u64], fun _ => none, fun
  | [r, n, w] => .dat .bool (.B (slostB r n.int w.int))
  | _ => .und⟩
def sTrue : Sum := ⟨[], fun _ => none, fun _ => .dat .bool (.B true)⟩
/-! ### RingLooks -/
def sLooks : Sum := ⟨[ringS, u64], fun _ => none, fun _ => .dat .bool (.B true)⟩
end Go.Proofs.Ytmdhmjidmiemmaa.Rg
