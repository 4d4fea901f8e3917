/-
  No cell of these rows narrows 'for every input' (looked for: loops, veiled, ifaces, maps, wideKeys, modest, calm, conditions, laid).
  DERIVED. THE GIVEN ROWS OF THIS SEAT. 4 by the template 'for every input the law returns true; each argument reads behind the call as it read before'; 0 by the template 'total and deterministic' (their statements: YtpfpgjkbnjnjnaaTotals.lean).
  GIVEN WITH THE SEED: the statements are not yours to turn. If you find one false, say at which input.
  Laid BY PROGRAM, IN A SANDBOX (cutbox-rows.mjs): the forced cells as the released guide's own fill.sh prints them over the translation 632365d13e8a90a1… (all of the seat's roots in one cut). By AI agents, Wed Nov 11 2026. No macro, syntax, notation, axiom, sorry.
-/
import Derived.Test.YtpfpgjkbnjnjnaaChecked
import GoSem.Claim
import GoSem.ClaimJoined
import GoSem.ClaimMapViews
import Derived.JoinedTies
import Derived.KernelRfl
namespace Go.Proofs.Ytpfpgjkbnjnjnaa
/- THE CELL 'sum', in the pinned program and in every row, IS THE sha256 OF THE DUMP (.gsa) THAT YtpfpgjkbnjnjnaaProg.lean LOADS. Nothing in Lean hashes anything: it is a label: what it is worth is what the hold of that sum in a sandbox is worth. -/
noncomputable def Try.pinned : Pinned := { name := "ytpfpgjkbnjnjnaa", sum := "632365d13e8a90a19f5315fd966c7268bbae079b1e3920b680b36f9f2c540862", checked := Try.checked }
namespace Rows
def none {H : Type} : Left H := { results := [], args := [] }

/-- 'partywalllaw29.AdmitKnown': WHATEVER THE INPUT: true; the input reads as it did. -/
def admitKnownSpec : ChangeSpec := { name := "admitKnown", fn := fun _ => fun
  | [] => { results := [.lit (.bool true)], args := [] }
  | _ => none }
def admitKnownRow : OpenClaim := { program := "ytpfpgjkbnjnjnaa", sum := "632365d13e8a90a19f5315fd966c7268bbae079b1e3920b680b36f9f2c540862", func := "partywall/partywalllaw29.AdmitKnown", spec := "admitKnown", unfollowed := true, recurses := true, plainKeys := false, apart := false }
def AdmitKnownSaid : Prop := admitKnownRow.holds Try.pinned (OpenSpec.ofChange admitKnownSpec)

/-- ITS FALSE NEIGHBOUR: 'it returns false'. Refute it at one input. -/
def admitKnownWrong : ChangeSpec := { name := "admitKnown", fn := fun _ => fun
  | [] => { results := [.lit (.bool false)], args := [] }
  | _ => none }
def AdmitKnownWrongFalsely : Prop := admitKnownRow.holds Try.pinned (OpenSpec.ofChange admitKnownWrong)

/-- 'partywalllaw29.AdmitOne': WHATEVER THE INPUT: true; the input reads as it did. -/
def admitOneSpec : ChangeSpec := { name := "admitOne", fn := fun _ => fun
  | [d1, d2, d3, d4, d5] => { results := [.lit (.bool true)], args := [d1, d2, d3, d4, d5] }
  | _ => none }
def admitOneRow : OpenClaim := { program := "ytpfpgjkbnjnjnaa", sum := "632365d13e8a90a19f5315fd966c7268bbae079b1e3920b680b36f9f2c540862", func := "partywall/partywalllaw29.AdmitOne", spec := "admitOne", unfollowed := true, recurses := true, plainKeys := false, apart := false }
def AdmitOneSaid : Prop := admitOneRow.holds Try.pinned (OpenSpec.ofChange admitOneSpec)

/-- ITS FALSE NEIGHBOUR: 'it returns false'. Refute it at one input. -/
def admitOneWrong : ChangeSpec := { name := "admitOne", fn := fun _ => fun
  | [d1, d2, d3, d4, d5] => { results := [.lit (.bool false)], args := [d1, d2, d3, d4, d5] }
  | _ => none }
def AdmitOneWrongFalsely : Prop := admitOneRow.holds Try.pinned (OpenSpec.ofChange admitOneWrong)

/-- 'partywalllaw29.AdmitRules': WHATEVER THE INPUT: true; the input reads as it did. -/
def admitRulesSpec : ChangeSpec := { name := "admitRules", fn := fun _ => fun
  | [d1, d2, d3, d4] => { results := [.lit (.bool true)], args := [d1, d2, d3, d4] }
  | _ => none }
def admitRulesRow : OpenClaim := { program := "ytpfpgjkbnjnjnaa", sum := "632365d13e8a90a19f5315fd966c7268bbae079b1e3920b680b36f9f2c540862", func := "partywall/partywalllaw29.AdmitRules", spec := "admitRules", unfollowed := true, recurses := true, plainKeys := false, apart := false }
def AdmitRulesSaid : Prop := admitRulesRow.holds Try.pinned (OpenSpec.ofChange admitRulesSpec)

/-- ITS FALSE NEIGHBOUR: 'it returns false'. Refute it at one input. -/
def admitRulesWrong : ChangeSpec := { name := "admitRules", fn := fun _ => fun
  | [d1, d2, d3, d4] => { results := [.lit (.bool false)], args := [d1, d2, d3, d4] }
  | _ => none }
def AdmitRulesWrongFalsely : Prop := admitRulesRow.holds Try.pinned (OpenSpec.ofChange admitRulesWrong)

/-- 'partywalllaw29.AdmitBlind': WHATEVER THE INPUT: true; the input reads as it did. -/
def admitBlindSpec : ChangeSpec := { name := "admitBlind", fn := fun _ => fun
  | [d1, d2, d3] => { results := [.lit (.bool true)], args := [d1, d2, d3] }
  | _ => none }
def admitBlindRow : OpenClaim := { program := "ytpfpgjkbnjnjnaa", sum := "632365d13e8a90a19f5315fd966c7268bbae079b1e3920b680b36f9f2c540862", func := "partywall/partywalllaw29.AdmitBlind", spec := "admitBlind", unfollowed := true, recurses := true, plainKeys := false, apart := false }
def AdmitBlindSaid : Prop := admitBlindRow.holds Try.pinned (OpenSpec.ofChange admitBlindSpec)

/-- ITS FALSE NEIGHBOUR: 'it returns false'. Refute it at one input. -/
def admitBlindWrong : ChangeSpec := { name := "admitBlind", fn := fun _ => fun
  | [d1, d2, d3] => { results := [.lit (.bool false)], args := [d1, d2, d3] }
  | _ => none }
def AdmitBlindWrongFalsely : Prop := admitBlindRow.holds Try.pinned (OpenSpec.ofChange admitBlindWrong)

/- THE SECOND FORM. 'bulk': how many values and letters a reading holds, each counted each time it is reached (what is shared counts as often as it is met; a slice's spare places count too). A statement '..UptoSaid' is the law's where the arguments, and the package variables that the reading takes, are together of bulk at most 1048576: NARROWER than '..Said'. Prove '..Said' where nothing that the law and all that it calls make is longer than what came in: it says more and counts as full. Else prove '..UptoSaid'. A law counts once. -/
mutual
def uptoBulk {H : Type} : DataW H → Nat
  | .lit (.string bytes) => bytes.length + 1
  | .lit _ => 1
  | .nil => 1
  | .ptr d => uptoBulk d + 1
  | .slice elems spare => uptoBulkAll elems + uptoBulkAll spare + 1
  | .agg parts => uptoBulkAll parts + 1
  | .iface _ d => uptoBulk d + 1
  | .map entries => uptoBulkEntries entries + 1
  | .held _ => 1
def uptoBulkAll {H : Type} : List (DataW H) → Nat
  | [] => 0
  | d :: r => uptoBulk d + uptoBulkAll r
def uptoBulkEntries {H : Type} : List (Lit × DataW H) → Nat
  | [] => 0
  | x :: r => uptoBulkEntry x + uptoBulkEntries r
def uptoBulkEntry {H : Type} : Lit × DataW H → Nat
  | (.string bytes, d) => bytes.length + uptoBulk d + 1
  | (_, d) => uptoBulk d + 1
 end
def uptoSmall : (H : Type) → List (DataW H) → Bool := fun _ ds => decide (uptoBulkAll ds ≤ 1048576)
def OpenSpec.upto (s : _root_.Go.ChangeSpec) : _root_.Go.OpenSpec := { _root_.Go.OpenSpec.ofChange s with cond := some uptoSmall }

/-- 'partywalllaw29.AdmitKnown', WHERE WHAT IT READS IS OF BULK AT MOST 1048576: true; the input reads as it did. -/
def admitKnownUptoRow : OpenClaim := { program := "ytpfpgjkbnjnjnaa", sum := "632365d13e8a90a19f5315fd966c7268bbae079b1e3920b680b36f9f2c540862", func := "partywall/partywalllaw29.AdmitKnown", spec := "admitKnown", unfollowed := true, recurses := true, plainKeys := false, apart := false, narrowed := true }
def AdmitKnownUptoSaid : Prop := admitKnownUptoRow.holds Try.pinned (OpenSpec.upto admitKnownSpec)

/-- 'partywalllaw29.AdmitOne', WHERE WHAT IT READS IS OF BULK AT MOST 1048576: true; the input reads as it did. -/
def admitOneUptoRow : OpenClaim := { program := "ytpfpgjkbnjnjnaa", sum := "632365d13e8a90a19f5315fd966c7268bbae079b1e3920b680b36f9f2c540862", func := "partywall/partywalllaw29.AdmitOne", spec := "admitOne", unfollowed := true, recurses := true, plainKeys := false, apart := false, narrowed := true }
def AdmitOneUptoSaid : Prop := admitOneUptoRow.holds Try.pinned (OpenSpec.upto admitOneSpec)

/-- 'partywalllaw29.AdmitRules', WHERE WHAT IT READS IS OF BULK AT MOST 1048576: true; the input reads as it did. -/
def admitRulesUptoRow : OpenClaim := { program := "ytpfpgjkbnjnjnaa", sum := "632365d13e8a90a19f5315fd966c7268bbae079b1e3920b680b36f9f2c540862", func := "partywall/partywalllaw29.AdmitRules", spec := "admitRules", unfollowed := true, recurses := true, plainKeys := false, apart := false, narrowed := true }
def AdmitRulesUptoSaid : Prop := admitRulesUptoRow.holds Try.pinned (OpenSpec.upto admitRulesSpec)

/-- 'partywalllaw29.AdmitBlind', WHERE WHAT IT READS IS OF BULK AT MOST 1048576: true; the input reads as it did. -/
def admitBlindUptoRow : OpenClaim := { program := "ytpfpgjkbnjnjnaa", sum := "632365d13e8a90a19f5315fd966c7268bbae079b1e3920b680b36f9f2c540862", func := "partywall/partywalllaw29.AdmitBlind", spec := "admitBlind", unfollowed := true, recurses := true, plainKeys := false, apart := false, narrowed := true }
def AdmitBlindUptoSaid : Prop := admitBlindUptoRow.holds Try.pinned (OpenSpec.upto admitBlindSpec)

end Rows
end Go.Proofs.Ytpfpgjkbnjnjnaa
