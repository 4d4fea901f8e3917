/-
  No cell of these rows narrows 'for every input' (looked for: loops, veiled, ifaces, maps, wideKeys, modest, calm, conditions, laid).
  DERIVED. THE GIVEN ROWS OF THIS SEAT. 5 by the template 'for every input the law returns true; each argument reads behind the call as it read before'; 0 by the template 'total and deterministic' (their statements: YtelemmagiagohaaTotals.lean).
  GIVEN WITH THE SEED: the statements are not yours to turn. If you find one false, say at which input.
  Laid BY PROGRAM, IN A SANDBOX (cutbox-rows.mjs): the forced cells as the released guide's own fill.sh prints them over the translation 02969c4aa0ed328c… (all of the seat's roots in one cut). By AI agents, Wed Nov 11 2026. No macro, syntax, notation, axiom, sorry.
-/
import Derived.Test.YtelemmagiagohaaChecked
import GoSem.Claim
import GoSem.ClaimJoined
import GoSem.ClaimMapViews
import Derived.JoinedTies
import Derived.KernelRfl
namespace Go.Proofs.Ytelemmagiagohaa
/- THE CELL 'sum', in the pinned program and in every row, IS THE sha256 OF THE DUMP (.gsa) THAT YtelemmagiagohaaProg.lean LOADS. Nothing in Lean hashes anything: it is a label: what it is worth is what the hold of that sum in a sandbox is worth. -/
noncomputable def Try.pinned : Pinned := { name := "ytelemmagiagohaa", sum := "02969c4aa0ed328c76ffeffbadf7875856adee6c7b273e1e124ad92cd4dd7314", checked := Try.checked }
namespace Rows
def none {H : Type} : Left H := { results := [], args := [] }

/-- 'partywalllaw23.StoreChanges': WHATEVER THE INPUT: true; the input reads as it did. -/
def storeChangesSpec : ChangeSpec := { name := "storeChanges", fn := fun _ => fun
  | [d1, d2, d3] => { results := [.lit (.bool true)], args := [d1, d2, d3] }
  | _ => none }
def storeChangesRow : OpenClaim := { program := "ytelemmagiagohaa", sum := "02969c4aa0ed328c76ffeffbadf7875856adee6c7b273e1e124ad92cd4dd7314", func := "partywall/partywalllaw23.StoreChanges", spec := "storeChanges", unfollowed := true, recurses := true, plainKeys := false, apart := false }
def StoreChangesSaid : Prop := storeChangesRow.holds Try.pinned (OpenSpec.ofChange storeChangesSpec)

/-- ITS FALSE NEIGHBOUR: 'it returns false'. Refute it at one input. -/
def storeChangesWrong : ChangeSpec := { name := "storeChanges", fn := fun _ => fun
  | [d1, d2, d3] => { results := [.lit (.bool false)], args := [d1, d2, d3] }
  | _ => none }
def StoreChangesWrongFalsely : Prop := storeChangesRow.holds Try.pinned (OpenSpec.ofChange storeChangesWrong)

/-- 'partywalllaw23.StoreBelow': WHATEVER THE INPUT: true; the input reads as it did. -/
def storeBelowSpec : ChangeSpec := { name := "storeBelow", fn := fun _ => fun
  | [d1, d2, d3] => { results := [.lit (.bool true)], args := [d1, d2, d3] }
  | _ => none }
def storeBelowRow : OpenClaim := { program := "ytelemmagiagohaa", sum := "02969c4aa0ed328c76ffeffbadf7875856adee6c7b273e1e124ad92cd4dd7314", func := "partywall/partywalllaw23.StoreBelow", spec := "storeBelow", unfollowed := true, recurses := true, plainKeys := false, apart := false }
def StoreBelowSaid : Prop := storeBelowRow.holds Try.pinned (OpenSpec.ofChange storeBelowSpec)

/-- ITS FALSE NEIGHBOUR: 'it returns false'. Refute it at one input. -/
def storeBelowWrong : ChangeSpec := { name := "storeBelow", fn := fun _ => fun
  | [d1, d2, d3] => { results := [.lit (.bool false)], args := [d1, d2, d3] }
  | _ => none }
def StoreBelowWrongFalsely : Prop := storeBelowRow.holds Try.pinned (OpenSpec.ofChange storeBelowWrong)

/-- 'partywalllaw23.StoreKeeps': WHATEVER THE INPUT: true; the input reads as it did. -/
def storeKeepsSpec : ChangeSpec := { name := "storeKeeps", fn := fun _ => fun
  | [d1, d2, d3] => { results := [.lit (.bool true)], args := [d1, d2, d3] }
  | _ => none }
def storeKeepsRow : OpenClaim := { program := "ytelemmagiagohaa", sum := "02969c4aa0ed328c76ffeffbadf7875856adee6c7b273e1e124ad92cd4dd7314", func := "partywall/partywalllaw23.StoreKeeps", spec := "storeKeeps", unfollowed := true, recurses := true, plainKeys := false, apart := false }
def StoreKeepsSaid : Prop := storeKeepsRow.holds Try.pinned (OpenSpec.ofChange storeKeepsSpec)

/-- ITS FALSE NEIGHBOUR: 'it returns false'. Refute it at one input. -/
def storeKeepsWrong : ChangeSpec := { name := "storeKeeps", fn := fun _ => fun
  | [d1, d2, d3] => { results := [.lit (.bool false)], args := [d1, d2, d3] }
  | _ => none }
def StoreKeepsWrongFalsely : Prop := storeKeepsRow.holds Try.pinned (OpenSpec.ofChange storeKeepsWrong)

/-- 'partywalllaw23.StoreLooks': WHATEVER THE INPUT: true; the input reads as it did. -/
def storeLooksSpec : ChangeSpec := { name := "storeLooks", fn := fun _ => fun
  | [d1, d2, d3, d4] => { results := [.lit (.bool true)], args := [d1, d2, d3, d4] }
  | _ => none }
def storeLooksRow : OpenClaim := { program := "ytelemmagiagohaa", sum := "02969c4aa0ed328c76ffeffbadf7875856adee6c7b273e1e124ad92cd4dd7314", func := "partywall/partywalllaw23.StoreLooks", spec := "storeLooks", unfollowed := true, recurses := true, plainKeys := false, apart := false }
def StoreLooksSaid : Prop := storeLooksRow.holds Try.pinned (OpenSpec.ofChange storeLooksSpec)

/-- ITS FALSE NEIGHBOUR: 'it returns false'. Refute it at one input. -/
def storeLooksWrong : ChangeSpec := { name := "storeLooks", fn := fun _ => fun
  | [d1, d2, d3, d4] => { results := [.lit (.bool false)], args := [d1, d2, d3, d4] }
  | _ => none }
def StoreLooksWrongFalsely : Prop := storeLooksRow.holds Try.pinned (OpenSpec.ofChange storeLooksWrong)

/-- 'partywalllaw23.StoreKnown': WHATEVER THE INPUT: true; the input reads as it did. -/
def storeKnownSpec : ChangeSpec := { name := "storeKnown", fn := fun _ => fun
  | [] => { results := [.lit (.bool true)], args := [] }
  | _ => none }
def storeKnownRow : OpenClaim := { program := "ytelemmagiagohaa", sum := "02969c4aa0ed328c76ffeffbadf7875856adee6c7b273e1e124ad92cd4dd7314", func := "partywall/partywalllaw23.StoreKnown", spec := "storeKnown", unfollowed := true, recurses := true, plainKeys := false, apart := false }
def StoreKnownSaid : Prop := storeKnownRow.holds Try.pinned (OpenSpec.ofChange storeKnownSpec)

/-- ITS FALSE NEIGHBOUR: 'it returns false'. Refute it at one input. -/
def storeKnownWrong : ChangeSpec := { name := "storeKnown", fn := fun _ => fun
  | [] => { results := [.lit (.bool false)], args := [] }
  | _ => none }
def StoreKnownWrongFalsely : Prop := storeKnownRow.holds Try.pinned (OpenSpec.ofChange storeKnownWrong)

/- THE SECOND FORM. 'bulk': how many values and letters a reading holds, each counted each time it is reached (what is shared counts as often as it is met; a slice's spare places count too). A statement '..UptoSaid' is the law's where the arguments, and the package variables that the reading takes, are together of bulk at most 1048576: NARROWER than '..Said'. Prove '..Said' where nothing that the law and all that it calls make is longer than what came in: it says more and counts as full. Else prove '..UptoSaid'. A law counts once. -/
mutual
def uptoBulk {H : Type} : DataW H → Nat
  | .lit (.string bytes) => bytes.length + 1
  | .lit _ => 1
  | .nil => 1
  | .ptr d => uptoBulk d + 1
  | .slice elems spare => uptoBulkAll elems + uptoBulkAll spare + 1
  | .agg parts => uptoBulkAll parts + 1
  | .iface _ d => uptoBulk d + 1
  | .map entries => uptoBulkEntries entries + 1
  | .held _ => 1
def uptoBulkAll {H : Type} : List (DataW H) → Nat
  | [] => 0
  | d :: r => uptoBulk d + uptoBulkAll r
def uptoBulkEntries {H : Type} : List (Lit × DataW H) → Nat
  | [] => 0
  | x :: r => uptoBulkEntry x + uptoBulkEntries r
def uptoBulkEntry {H : Type} : Lit × DataW H → Nat
  | (.string bytes, d) => bytes.length + uptoBulk d + 1
  | (_, d) => uptoBulk d + 1
 end
def uptoSmall : (H : Type) → List (DataW H) → Bool := fun _ ds => decide (uptoBulkAll ds ≤ 1048576)
def OpenSpec.upto (s : _root_.Go.ChangeSpec) : _root_.Go.OpenSpec := { _root_.Go.OpenSpec.ofChange s with cond := some uptoSmall }

/-- 'partywalllaw23.StoreChanges', WHERE WHAT IT READS IS OF BULK AT MOST 1048576: true; the input reads as it did. -/
def storeChangesUptoRow : OpenClaim := { program := "ytelemmagiagohaa", sum := "02969c4aa0ed328c76ffeffbadf7875856adee6c7b273e1e124ad92cd4dd7314", func := "partywall/partywalllaw23.StoreChanges", spec := "storeChanges", unfollowed := true, recurses := true, plainKeys := false, apart := false, narrowed := true }
def StoreChangesUptoSaid : Prop := storeChangesUptoRow.holds Try.pinned (OpenSpec.upto storeChangesSpec)

/-- 'partywalllaw23.StoreBelow', WHERE WHAT IT READS IS OF BULK AT MOST 1048576: true; the input reads as it did. -/
def storeBelowUptoRow : OpenClaim := { program := "ytelemmagiagohaa", sum := "02969c4aa0ed328c76ffeffbadf7875856adee6c7b273e1e124ad92cd4dd7314", func := "partywall/partywalllaw23.StoreBelow", spec := "storeBelow", unfollowed := true, recurses := true, plainKeys := false, apart := false, narrowed := true }
def StoreBelowUptoSaid : Prop := storeBelowUptoRow.holds Try.pinned (OpenSpec.upto storeBelowSpec)

/-- 'partywalllaw23.StoreKeeps', WHERE WHAT IT READS IS OF BULK AT MOST 1048576: true; the input reads as it did. -/
def storeKeepsUptoRow : OpenClaim := { program := "ytelemmagiagohaa", sum := "02969c4aa0ed328c76ffeffbadf7875856adee6c7b273e1e124ad92cd4dd7314", func := "partywall/partywalllaw23.StoreKeeps", spec := "storeKeeps", unfollowed := true, recurses := true, plainKeys := false, apart := false, narrowed := true }
def StoreKeepsUptoSaid : Prop := storeKeepsUptoRow.holds Try.pinned (OpenSpec.upto storeKeepsSpec)

/-- 'partywalllaw23.StoreLooks', WHERE WHAT IT READS IS OF BULK AT MOST 1048576: true; the input reads as it did. -/
def storeLooksUptoRow : OpenClaim := { program := "ytelemmagiagohaa", sum := "02969c4aa0ed328c76ffeffbadf7875856adee6c7b273e1e124ad92cd4dd7314", func := "partywall/partywalllaw23.StoreLooks", spec := "storeLooks", unfollowed := true, recurses := true, plainKeys := false, apart := false, narrowed := true }
def StoreLooksUptoSaid : Prop := storeLooksUptoRow.holds Try.pinned (OpenSpec.upto storeLooksSpec)

/-- 'partywalllaw23.StoreKnown', WHERE WHAT IT READS IS OF BULK AT MOST 1048576: true; the input reads as it did. -/
def storeKnownUptoRow : OpenClaim := { program := "ytelemmagiagohaa", sum := "02969c4aa0ed328c76ffeffbadf7875856adee6c7b273e1e124ad92cd4dd7314", func := "partywall/partywalllaw23.StoreKnown", spec := "storeKnown", unfollowed := true, recurses := true, plainKeys := false, apart := false, narrowed := true }
def StoreKnownUptoSaid : Prop := storeKnownUptoRow.holds Try.pinned (OpenSpec.upto storeKnownSpec)

end Rows
end Go.Proofs.Ytelemmagiagohaa
