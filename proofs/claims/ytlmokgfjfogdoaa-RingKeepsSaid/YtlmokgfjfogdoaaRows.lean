/-
  No cell of these rows narrows 'for every input' (looked for: loops, veiled, ifaces, maps, wideKeys, modest, calm, conditions, laid).
  DERIVED. THE GIVEN ROWS OF THIS SEAT. 6 by the template 'for every input the law returns true; each argument reads behind the call as it read before'; 0 by the template 'total and deterministic' (their statements: YtlmokgfjfogdoaaTotals.lean).
  GIVEN WITH THE SEED: the statements are not yours to turn. If you find one false, say at which input.
  Laid BY PROGRAM, IN A SANDBOX (cutbox-rows.mjs): the forced cells as the released guide's own fill.sh prints them over the translation 70db2a3c968dc1b6… (all of the seat's roots in one cut). By AI agents, Wed Nov 11 2026. No macro, syntax, notation, axiom, sorry.
-/
import Derived.Test.YtlmokgfjfogdoaaChecked
import GoSem.Claim
import GoSem.ClaimJoined
import GoSem.ClaimMapViews
import Derived.JoinedTies
import Derived.KernelRfl
namespace Go.Proofs.Ytlmokgfjfogdoaa
/- THE CELL 'sum', in the pinned program and in every row, IS THE sha256 OF THE DUMP (.gsa) THAT YtlmokgfjfogdoaaProg.lean LOADS. Nothing in Lean hashes anything: it is a label: what it is worth is what the hold of that sum in a sandbox is worth. -/
noncomputable def Try.pinned : Pinned := { name := "ytlmokgfjfogdoaa", sum := "70db2a3c968dc1b6a3f6345bd6497a305205ce7fc0759f12a8a6893431436196", checked := Try.checked }
namespace Rows
def none {H : Type} : Left H := { results := [], args := [] }

/-- 'partywalllaw21.RingLooks': WHATEVER THE INPUT: true; the input reads as it did. -/
def ringLooksSpec : ChangeSpec := { name := "ringLooks", fn := fun _ => fun
  | [d1, d2] => { results := [.lit (.bool true)], args := [d1, d2] }
  | _ => none }
def ringLooksRow : OpenClaim := { program := "ytlmokgfjfogdoaa", sum := "70db2a3c968dc1b6a3f6345bd6497a305205ce7fc0759f12a8a6893431436196", func := "partywall/partywalllaw21.RingLooks", spec := "ringLooks", unfollowed := true, recurses := true, apart := false }
def RingLooksSaid : Prop := ringLooksRow.holds Try.pinned (OpenSpec.ofChange ringLooksSpec)

/-- ITS FALSE NEIGHBOUR: 'it returns false'. Refute it at one input. -/
def ringLooksWrong : ChangeSpec := { name := "ringLooks", fn := fun _ => fun
  | [d1, d2] => { results := [.lit (.bool false)], args := [d1, d2] }
  | _ => none }
def RingLooksWrongFalsely : Prop := ringLooksRow.holds Try.pinned (OpenSpec.ofChange ringLooksWrong)

/-- 'partywalllaw21.RingPuts': WHATEVER THE INPUT: true; the input reads as it did. -/
def ringPutsSpec : ChangeSpec := { name := "ringPuts", fn := fun _ => fun
  | [d1, d2, d3, d4, d5, d6, d7, d8] => { results := [.lit (.bool true)], args := [d1, d2, d3, d4, d5, d6, d7, d8] }
  | _ => none }
def ringPutsRow : OpenClaim := { program := "ytlmokgfjfogdoaa", sum := "70db2a3c968dc1b6a3f6345bd6497a305205ce7fc0759f12a8a6893431436196", func := "partywall/partywalllaw21.RingPuts", spec := "ringPuts", unfollowed := true, recurses := true, apart := false }
def RingPutsSaid : Prop := ringPutsRow.holds Try.pinned (OpenSpec.ofChange ringPutsSpec)

/-- ITS FALSE NEIGHBOUR: 'it returns false'. Refute it at one input. -/
def ringPutsWrong : ChangeSpec := { name := "ringPuts", fn := fun _ => fun
  | [d1, d2, d3, d4, d5, d6, d7, d8] => { results := [.lit (.bool false)], args := [d1, d2, d3, d4, d5, d6, d7, d8] }
  | _ => none }
def RingPutsWrongFalsely : Prop := ringPutsRow.holds Try.pinned (OpenSpec.ofChange ringPutsWrong)

/-- 'partywalllaw21.RingKnown': WHATEVER THE INPUT: true; the input reads as it did. -/
def ringKnownSpec : ChangeSpec := { name := "ringKnown", fn := fun _ => fun
  | [] => { results := [.lit (.bool true)], args := [] }
  | _ => none }
def ringKnownRow : OpenClaim := { program := "ytlmokgfjfogdoaa", sum := "70db2a3c968dc1b6a3f6345bd6497a305205ce7fc0759f12a8a6893431436196", func := "partywall/partywalllaw21.RingKnown", spec := "ringKnown", unfollowed := true, recurses := true, apart := false }
def RingKnownSaid : Prop := ringKnownRow.holds Try.pinned (OpenSpec.ofChange ringKnownSpec)

/-- ITS FALSE NEIGHBOUR: 'it returns false'. Refute it at one input. -/
def ringKnownWrong : ChangeSpec := { name := "ringKnown", fn := fun _ => fun
  | [] => { results := [.lit (.bool false)], args := [] }
  | _ => none }
def RingKnownWrongFalsely : Prop := ringKnownRow.holds Try.pinned (OpenSpec.ofChange ringKnownWrong)

/-- 'partywalllaw21.RingEvicts': WHATEVER THE INPUT: true; the input reads as it did. -/
def ringEvictsSpec : ChangeSpec := { name := "ringEvicts", fn := fun _ => fun
  | [d1, d2, d3, d4, d5, d6] => { results := [.lit (.bool true)], args := [d1, d2, d3, d4, d5, d6] }
  | _ => none }
def ringEvictsRow : OpenClaim := { program := "ytlmokgfjfogdoaa", sum := "70db2a3c968dc1b6a3f6345bd6497a305205ce7fc0759f12a8a6893431436196", func := "partywall/partywalllaw21.RingEvicts", spec := "ringEvicts", unfollowed := true, recurses := true, apart := false }
def RingEvictsSaid : Prop := ringEvictsRow.holds Try.pinned (OpenSpec.ofChange ringEvictsSpec)

/-- ITS FALSE NEIGHBOUR: 'it returns false'. Refute it at one input. -/
def ringEvictsWrong : ChangeSpec := { name := "ringEvicts", fn := fun _ => fun
  | [d1, d2, d3, d4, d5, d6] => { results := [.lit (.bool false)], args := [d1, d2, d3, d4, d5, d6] }
  | _ => none }
def RingEvictsWrongFalsely : Prop := ringEvictsRow.holds Try.pinned (OpenSpec.ofChange ringEvictsWrong)

/-- 'partywalllaw21.RingKeeps': WHATEVER THE INPUT: true; the input reads as it did. -/
def ringKeepsSpec : ChangeSpec := { name := "ringKeeps", fn := fun _ => fun
  | [d1, d2, d3] => { results := [.lit (.bool true)], args := [d1, d2, d3] }
  | _ => none }
def ringKeepsRow : OpenClaim := { program := "ytlmokgfjfogdoaa", sum := "70db2a3c968dc1b6a3f6345bd6497a305205ce7fc0759f12a8a6893431436196", func := "partywall/partywalllaw21.RingKeeps", spec := "ringKeeps", unfollowed := true, recurses := true, apart := false }
def RingKeepsSaid : Prop := ringKeepsRow.holds Try.pinned (OpenSpec.ofChange ringKeepsSpec)

/-- ITS FALSE NEIGHBOUR: 'it returns false'. Refute it at one input. -/
def ringKeepsWrong : ChangeSpec := { name := "ringKeeps", fn := fun _ => fun
  | [d1, d2, d3] => { results := [.lit (.bool false)], args := [d1, d2, d3] }
  | _ => none }
def RingKeepsWrongFalsely : Prop := ringKeepsRow.holds Try.pinned (OpenSpec.ofChange ringKeepsWrong)

/-- 'partywalllaw21.RingAgain': WHATEVER THE INPUT: true; the input reads as it did. -/
def ringAgainSpec : ChangeSpec := { name := "ringAgain", fn := fun _ => fun
  | [d1, d2] => { results := [.lit (.bool true)], args := [d1, d2] }
  | _ => none }
def ringAgainRow : OpenClaim := { program := "ytlmokgfjfogdoaa", sum := "70db2a3c968dc1b6a3f6345bd6497a305205ce7fc0759f12a8a6893431436196", func := "partywall/partywalllaw21.RingAgain", spec := "ringAgain", unfollowed := true, recurses := true, apart := false }
def RingAgainSaid : Prop := ringAgainRow.holds Try.pinned (OpenSpec.ofChange ringAgainSpec)

/-- ITS FALSE NEIGHBOUR: 'it returns false'. Refute it at one input. -/
def ringAgainWrong : ChangeSpec := { name := "ringAgain", fn := fun _ => fun
  | [d1, d2] => { results := [.lit (.bool false)], args := [d1, d2] }
  | _ => none }
def RingAgainWrongFalsely : Prop := ringAgainRow.holds Try.pinned (OpenSpec.ofChange ringAgainWrong)

/- THE SECOND FORM. 'bulk': how many values and letters a reading holds, each counted each time it is reached (what is shared counts as often as it is met; a slice's spare places count too). A statement '..UptoSaid' is the law's where the arguments, and the package variables that the reading takes, are together of bulk at most 1048576: NARROWER than '..Said'. Prove '..Said' where nothing that the law and all that it calls make is longer than what came in: it says more and counts as full. Else prove '..UptoSaid'. A law counts once. -/
mutual
def uptoBulk {H : Type} : DataW H → Nat
  | .lit (.string bytes) => bytes.length + 1
  | .lit _ => 1
  | .nil => 1
  | .ptr d => uptoBulk d + 1
  | .slice elems spare => uptoBulkAll elems + uptoBulkAll spare + 1
  | .agg parts => uptoBulkAll parts + 1
  | .iface _ d => uptoBulk d + 1
  | .map entries => uptoBulkEntries entries + 1
  | .held _ => 1
def uptoBulkAll {H : Type} : List (DataW H) → Nat
  | [] => 0
  | d :: r => uptoBulk d + uptoBulkAll r
def uptoBulkEntries {H : Type} : List (Lit × DataW H) → Nat
  | [] => 0
  | x :: r => uptoBulkEntry x + uptoBulkEntries r
def uptoBulkEntry {H : Type} : Lit × DataW H → Nat
  | (.string bytes, d) => bytes.length + uptoBulk d + 1
  | (_, d) => uptoBulk d + 1
 end
def uptoSmall : (H : Type) → List (DataW H) → Bool := fun _ ds => decide (uptoBulkAll ds ≤ 1048576)
def OpenSpec.upto (s : _root_.Go.ChangeSpec) : _root_.Go.OpenSpec := { _root_.Go.OpenSpec.ofChange s with cond := some uptoSmall }

/-- 'partywalllaw21.RingLooks', WHERE WHAT IT READS IS OF BULK AT MOST 1048576: true; the input reads as it did. -/
def ringLooksUptoRow : OpenClaim := { program := "ytlmokgfjfogdoaa", sum := "70db2a3c968dc1b6a3f6345bd6497a305205ce7fc0759f12a8a6893431436196", func := "partywall/partywalllaw21.RingLooks", spec := "ringLooks", unfollowed := true, recurses := true, apart := false, narrowed := true }
def RingLooksUptoSaid : Prop := ringLooksUptoRow.holds Try.pinned (OpenSpec.upto ringLooksSpec)

/-- 'partywalllaw21.RingPuts', WHERE WHAT IT READS IS OF BULK AT MOST 1048576: true; the input reads as it did. -/
def ringPutsUptoRow : OpenClaim := { program := "ytlmokgfjfogdoaa", sum := "70db2a3c968dc1b6a3f6345bd6497a305205ce7fc0759f12a8a6893431436196", func := "partywall/partywalllaw21.RingPuts", spec := "ringPuts", unfollowed := true, recurses := true, apart := false, narrowed := true }
def RingPutsUptoSaid : Prop := ringPutsUptoRow.holds Try.pinned (OpenSpec.upto ringPutsSpec)

/-- 'partywalllaw21.RingKnown', WHERE WHAT IT READS IS OF BULK AT MOST 1048576: true; the input reads as it did. -/
def ringKnownUptoRow : OpenClaim := { program := "ytlmokgfjfogdoaa", sum := "70db2a3c968dc1b6a3f6345bd6497a305205ce7fc0759f12a8a6893431436196", func := "partywall/partywalllaw21.RingKnown", spec := "ringKnown", unfollowed := true, recurses := true, apart := false, narrowed := true }
def RingKnownUptoSaid : Prop := ringKnownUptoRow.holds Try.pinned (OpenSpec.upto ringKnownSpec)

/-- 'partywalllaw21.RingEvicts', WHERE WHAT IT READS IS OF BULK AT MOST 1048576: true; the input reads as it did. -/
def ringEvictsUptoRow : OpenClaim := { program := "ytlmokgfjfogdoaa", sum := "70db2a3c968dc1b6a3f6345bd6497a305205ce7fc0759f12a8a6893431436196", func := "partywall/partywalllaw21.RingEvicts", spec := "ringEvicts", unfollowed := true, recurses := true, apart := false, narrowed := true }
def RingEvictsUptoSaid : Prop := ringEvictsUptoRow.holds Try.pinned (OpenSpec.upto ringEvictsSpec)

/-- 'partywalllaw21.RingKeeps', WHERE WHAT IT READS IS OF BULK AT MOST 1048576: true; the input reads as it did. -/
def ringKeepsUptoRow : OpenClaim := { program := "ytlmokgfjfogdoaa", sum := "70db2a3c968dc1b6a3f6345bd6497a305205ce7fc0759f12a8a6893431436196", func := "partywall/partywalllaw21.RingKeeps", spec := "ringKeeps", unfollowed := true, recurses := true, apart := false, narrowed := true }
def RingKeepsUptoSaid : Prop := ringKeepsUptoRow.holds Try.pinned (OpenSpec.upto ringKeepsSpec)

/-- 'partywalllaw21.RingAgain', WHERE WHAT IT READS IS OF BULK AT MOST 1048576: true; the input reads as it did. -/
def ringAgainUptoRow : OpenClaim := { program := "ytlmokgfjfogdoaa", sum := "70db2a3c968dc1b6a3f6345bd6497a305205ce7fc0759f12a8a6893431436196", func := "partywall/partywalllaw21.RingAgain", spec := "ringAgain", unfollowed := true, recurses := true, apart := false, narrowed := true }
def RingAgainUptoSaid : Prop := ringAgainUptoRow.holds Try.pinned (OpenSpec.upto ringAgainSpec)

end Rows
end Go.Proofs.Ytlmokgfjfogdoaa
