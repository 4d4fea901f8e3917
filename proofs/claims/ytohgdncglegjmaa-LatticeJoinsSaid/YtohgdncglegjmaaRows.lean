/-
  No cell of these rows narrows 'for every input' (looked for: loops, veiled, ifaces, maps, wideKeys, modest, calm, conditions, laid).
  DERIVED. THE GIVEN ROWS OF THIS SEAT. 6 by the template 'for every input the law returns true; each argument reads behind the call as it read before'; 0 by the template 'total and deterministic' (their statements: YtohgdncglegjmaaTotals.lean).
  GIVEN WITH THE SEED: the statements are not yours to turn. If you find one false, say at which input.
  Laid BY PROGRAM, IN A SANDBOX (cutbox-rows.mjs): the forced cells as the released guide's own fill.sh prints them over the translation 642a2142f13fdb44… (all of the seat's roots in one cut). By AI agents, Wed Nov 11 2026. No macro, syntax, notation, axiom, sorry.
-/
import Derived.Test.YtohgdncglegjmaaChecked
import GoSem.Claim
import GoSem.ClaimJoined
import GoSem.ClaimMapViews
import Derived.JoinedTies
import Derived.KernelRfl
namespace Go.Proofs.Ytohgdncglegjmaa
/- THE CELL 'sum', in the pinned program and in every row, IS THE sha256 OF THE DUMP (.gsa) THAT YtohgdncglegjmaaProg.lean LOADS. Nothing in Lean hashes anything: it is a label: what it is worth is what the hold of that sum in a sandbox is worth. -/
noncomputable def Try.pinned : Pinned := { name := "ytohgdncglegjmaa", sum := "642a2142f13fdb44bc0335acdd2f8d91146c2e29b1a9f65d6f2de9637e9487c1", checked := Try.checked }
namespace Rows
def none {H : Type} : Left H := { results := [], args := [] }

/-- 'partywalllaw04.LatticeClosed': WHATEVER THE INPUT: true; the input reads as it did. -/
def latticeClosedSpec : ChangeSpec := { name := "latticeClosed", fn := fun _ => fun
  | [d] => { results := [.lit (.bool true)], args := [d] }
  | _ => none }
def latticeClosedRow : OpenClaim := { program := "ytohgdncglegjmaa", sum := "642a2142f13fdb44bc0335acdd2f8d91146c2e29b1a9f65d6f2de9637e9487c1", func := "partywall/partywalllaw04.LatticeClosed", spec := "latticeClosed", unfollowed := true, recurses := true, apart := false }
def LatticeClosedSaid : Prop := latticeClosedRow.holds Try.pinned (OpenSpec.ofChange latticeClosedSpec)

/-- ITS FALSE NEIGHBOUR: 'it returns false'. Refute it at one input. -/
def latticeClosedWrong : ChangeSpec := { name := "latticeClosed", fn := fun _ => fun
  | [d] => { results := [.lit (.bool false)], args := [d] }
  | _ => none }
def LatticeClosedWrongFalsely : Prop := latticeClosedRow.holds Try.pinned (OpenSpec.ofChange latticeClosedWrong)

/-- 'partywalllaw04.LatticeJoins': WHATEVER THE INPUT: true; the input reads as it did. -/
def latticeJoinsSpec : ChangeSpec := { name := "latticeJoins", fn := fun _ => fun
  | [d1, d2] => { results := [.lit (.bool true)], args := [d1, d2] }
  | _ => none }
def latticeJoinsRow : OpenClaim := { program := "ytohgdncglegjmaa", sum := "642a2142f13fdb44bc0335acdd2f8d91146c2e29b1a9f65d6f2de9637e9487c1", func := "partywall/partywalllaw04.LatticeJoins", spec := "latticeJoins", unfollowed := true, recurses := true, apart := false }
def LatticeJoinsSaid : Prop := latticeJoinsRow.holds Try.pinned (OpenSpec.ofChange latticeJoinsSpec)

/-- ITS FALSE NEIGHBOUR: 'it returns false'. Refute it at one input. -/
def latticeJoinsWrong : ChangeSpec := { name := "latticeJoins", fn := fun _ => fun
  | [d1, d2] => { results := [.lit (.bool false)], args := [d1, d2] }
  | _ => none }
def LatticeJoinsWrongFalsely : Prop := latticeJoinsRow.holds Try.pinned (OpenSpec.ofChange latticeJoinsWrong)

/-- 'partywalllaw04.LatticeBounds': WHATEVER THE INPUT: true; the input reads as it did. -/
def latticeBoundsSpec : ChangeSpec := { name := "latticeBounds", fn := fun _ => fun
  | [d1, d2, d3] => { results := [.lit (.bool true)], args := [d1, d2, d3] }
  | _ => none }
def latticeBoundsRow : OpenClaim := { program := "ytohgdncglegjmaa", sum := "642a2142f13fdb44bc0335acdd2f8d91146c2e29b1a9f65d6f2de9637e9487c1", func := "partywall/partywalllaw04.LatticeBounds", spec := "latticeBounds", unfollowed := true, recurses := true, apart := false }
def LatticeBoundsSaid : Prop := latticeBoundsRow.holds Try.pinned (OpenSpec.ofChange latticeBoundsSpec)

/-- ITS FALSE NEIGHBOUR: 'it returns false'. Refute it at one input. -/
def latticeBoundsWrong : ChangeSpec := { name := "latticeBounds", fn := fun _ => fun
  | [d1, d2, d3] => { results := [.lit (.bool false)], args := [d1, d2, d3] }
  | _ => none }
def LatticeBoundsWrongFalsely : Prop := latticeBoundsRow.holds Try.pinned (OpenSpec.ofChange latticeBoundsWrong)

/-- 'partywalllaw04.LatticeEnds': WHATEVER THE INPUT: true; the input reads as it did. -/
def latticeEndsSpec : ChangeSpec := { name := "latticeEnds", fn := fun _ => fun
  | [d] => { results := [.lit (.bool true)], args := [d] }
  | _ => none }
def latticeEndsRow : OpenClaim := { program := "ytohgdncglegjmaa", sum := "642a2142f13fdb44bc0335acdd2f8d91146c2e29b1a9f65d6f2de9637e9487c1", func := "partywall/partywalllaw04.LatticeEnds", spec := "latticeEnds", unfollowed := true, recurses := true, apart := false }
def LatticeEndsSaid : Prop := latticeEndsRow.holds Try.pinned (OpenSpec.ofChange latticeEndsSpec)

/-- ITS FALSE NEIGHBOUR: 'it returns false'. Refute it at one input. -/
def latticeEndsWrong : ChangeSpec := { name := "latticeEnds", fn := fun _ => fun
  | [d] => { results := [.lit (.bool false)], args := [d] }
  | _ => none }
def LatticeEndsWrongFalsely : Prop := latticeEndsRow.holds Try.pinned (OpenSpec.ofChange latticeEndsWrong)

/-- 'partywalllaw04.LatticeOrders': WHATEVER THE INPUT: true; the input reads as it did. -/
def latticeOrdersSpec : ChangeSpec := { name := "latticeOrders", fn := fun _ => fun
  | [d1, d2] => { results := [.lit (.bool true)], args := [d1, d2] }
  | _ => none }
def latticeOrdersRow : OpenClaim := { program := "ytohgdncglegjmaa", sum := "642a2142f13fdb44bc0335acdd2f8d91146c2e29b1a9f65d6f2de9637e9487c1", func := "partywall/partywalllaw04.LatticeOrders", spec := "latticeOrders", unfollowed := true, recurses := true, apart := false }
def LatticeOrdersSaid : Prop := latticeOrdersRow.holds Try.pinned (OpenSpec.ofChange latticeOrdersSpec)

/-- ITS FALSE NEIGHBOUR: 'it returns false'. Refute it at one input. -/
def latticeOrdersWrong : ChangeSpec := { name := "latticeOrders", fn := fun _ => fun
  | [d1, d2] => { results := [.lit (.bool false)], args := [d1, d2] }
  | _ => none }
def LatticeOrdersWrongFalsely : Prop := latticeOrdersRow.holds Try.pinned (OpenSpec.ofChange latticeOrdersWrong)

/-- 'partywalllaw04.LatticeKnown': WHATEVER THE INPUT: true; the input reads as it did. -/
def latticeKnownSpec : ChangeSpec := { name := "latticeKnown", fn := fun _ => fun
  | [] => { results := [.lit (.bool true)], args := [] }
  | _ => none }
def latticeKnownRow : OpenClaim := { program := "ytohgdncglegjmaa", sum := "642a2142f13fdb44bc0335acdd2f8d91146c2e29b1a9f65d6f2de9637e9487c1", func := "partywall/partywalllaw04.LatticeKnown", spec := "latticeKnown", unfollowed := true, recurses := true, apart := false }
def LatticeKnownSaid : Prop := latticeKnownRow.holds Try.pinned (OpenSpec.ofChange latticeKnownSpec)

/-- ITS FALSE NEIGHBOUR: 'it returns false'. Refute it at one input. -/
def latticeKnownWrong : ChangeSpec := { name := "latticeKnown", fn := fun _ => fun
  | [] => { results := [.lit (.bool false)], args := [] }
  | _ => none }
def LatticeKnownWrongFalsely : Prop := latticeKnownRow.holds Try.pinned (OpenSpec.ofChange latticeKnownWrong)

/- THE SECOND FORM. 'bulk': how many values and letters a reading holds, each counted each time it is reached (what is shared counts as often as it is met; a slice's spare places count too). A statement '..UptoSaid' is the law's where the arguments, and the package variables that the reading takes, are together of bulk at most 1048576: NARROWER than '..Said'. Prove '..Said' where nothing that the law and all that it calls make is longer than what came in: it says more and counts as full. Else prove '..UptoSaid'. A law counts once. -/
mutual
def uptoBulk {H : Type} : DataW H → Nat
  | .lit (.string bytes) => bytes.length + 1
  | .lit _ => 1
  | .nil => 1
  | .ptr d => uptoBulk d + 1
  | .slice elems spare => uptoBulkAll elems + uptoBulkAll spare + 1
  | .agg parts => uptoBulkAll parts + 1
  | .iface _ d => uptoBulk d + 1
  | .map entries => uptoBulkEntries entries + 1
  | .held _ => 1
def uptoBulkAll {H : Type} : List (DataW H) → Nat
  | [] => 0
  | d :: r => uptoBulk d + uptoBulkAll r
def uptoBulkEntries {H : Type} : List (Lit × DataW H) → Nat
  | [] => 0
  | x :: r => uptoBulkEntry x + uptoBulkEntries r
def uptoBulkEntry {H : Type} : Lit × DataW H → Nat
  | (.string bytes, d) => bytes.length + uptoBulk d + 1
  | (_, d) => uptoBulk d + 1
 end
def uptoSmall : (H : Type) → List (DataW H) → Bool := fun _ ds => decide (uptoBulkAll ds ≤ 1048576)
def OpenSpec.upto (s : _root_.Go.ChangeSpec) : _root_.Go.OpenSpec := { _root_.Go.OpenSpec.ofChange s with cond := some uptoSmall }

/-- 'partywalllaw04.LatticeClosed', WHERE WHAT IT READS IS OF BULK AT MOST 1048576: true; the input reads as it did. -/
def latticeClosedUptoRow : OpenClaim := { program := "ytohgdncglegjmaa", sum := "642a2142f13fdb44bc0335acdd2f8d91146c2e29b1a9f65d6f2de9637e9487c1", func := "partywall/partywalllaw04.LatticeClosed", spec := "latticeClosed", unfollowed := true, recurses := true, apart := false, narrowed := true }
def LatticeClosedUptoSaid : Prop := latticeClosedUptoRow.holds Try.pinned (OpenSpec.upto latticeClosedSpec)

/-- 'partywalllaw04.LatticeJoins', WHERE WHAT IT READS IS OF BULK AT MOST 1048576: true; the input reads as it did. -/
def latticeJoinsUptoRow : OpenClaim := { program := "ytohgdncglegjmaa", sum := "642a2142f13fdb44bc0335acdd2f8d91146c2e29b1a9f65d6f2de9637e9487c1", func := "partywall/partywalllaw04.LatticeJoins", spec := "latticeJoins", unfollowed := true, recurses := true, apart := false, narrowed := true }
def LatticeJoinsUptoSaid : Prop := latticeJoinsUptoRow.holds Try.pinned (OpenSpec.upto latticeJoinsSpec)

/-- 'partywalllaw04.LatticeBounds', WHERE WHAT IT READS IS OF BULK AT MOST 1048576: true; the input reads as it did. -/
def latticeBoundsUptoRow : OpenClaim := { program := "ytohgdncglegjmaa", sum := "642a2142f13fdb44bc0335acdd2f8d91146c2e29b1a9f65d6f2de9637e9487c1", func := "partywall/partywalllaw04.LatticeBounds", spec := "latticeBounds", unfollowed := true, recurses := true, apart := false, narrowed := true }
def LatticeBoundsUptoSaid : Prop := latticeBoundsUptoRow.holds Try.pinned (OpenSpec.upto latticeBoundsSpec)

/-- 'partywalllaw04.LatticeEnds', WHERE WHAT IT READS IS OF BULK AT MOST 1048576: true; the input reads as it did. -/
def latticeEndsUptoRow : OpenClaim := { program := "ytohgdncglegjmaa", sum := "642a2142f13fdb44bc0335acdd2f8d91146c2e29b1a9f65d6f2de9637e9487c1", func := "partywall/partywalllaw04.LatticeEnds", spec := "latticeEnds", unfollowed := true, recurses := true, apart := false, narrowed := true }
def LatticeEndsUptoSaid : Prop := latticeEndsUptoRow.holds Try.pinned (OpenSpec.upto latticeEndsSpec)

/-- 'partywalllaw04.LatticeOrders', WHERE WHAT IT READS IS OF BULK AT MOST 1048576: true; the input reads as it did. -/
def latticeOrdersUptoRow : OpenClaim := { program := "ytohgdncglegjmaa", sum := "642a2142f13fdb44bc0335acdd2f8d91146c2e29b1a9f65d6f2de9637e9487c1", func := "partywall/partywalllaw04.LatticeOrders", spec := "latticeOrders", unfollowed := true, recurses := true, apart := false, narrowed := true }
def LatticeOrdersUptoSaid : Prop := latticeOrdersUptoRow.holds Try.pinned (OpenSpec.upto latticeOrdersSpec)

/-- 'partywalllaw04.LatticeKnown', WHERE WHAT IT READS IS OF BULK AT MOST 1048576: true; the input reads as it did. -/
def latticeKnownUptoRow : OpenClaim := { program := "ytohgdncglegjmaa", sum := "642a2142f13fdb44bc0335acdd2f8d91146c2e29b1a9f65d6f2de9637e9487c1", func := "partywall/partywalllaw04.LatticeKnown", spec := "latticeKnown", unfollowed := true, recurses := true, apart := false, narrowed := true }
def LatticeKnownUptoSaid : Prop := latticeKnownUptoRow.holds Try.pinned (OpenSpec.upto latticeKnownSpec)

end Rows
end Go.Proofs.Ytohgdncglegjmaa
