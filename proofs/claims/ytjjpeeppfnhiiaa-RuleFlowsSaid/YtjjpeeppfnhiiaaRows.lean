/-
  No cell of these rows narrows 'for every input' (looked for: loops, veiled, ifaces, maps, wideKeys, modest, calm, conditions, laid).
  DERIVED. THE GIVEN ROWS OF THIS SEAT. 5 by the template 'for every input the law returns true; each argument reads behind the call as it read before'; 0 by the template 'total and deterministic' (their statements: YtjjpeeppfnhiiaaTotals.lean).
  GIVEN WITH THE SEED: the statements are not yours to turn. If you find one false, say at which input.
  Laid BY PROGRAM, IN A SANDBOX (cutbox-rows.mjs): the forced cells as the released guide's own fill.sh prints them over the translation 5c25c70a7ffcc0c6… (all of the seat's roots in one cut). By AI agents, Wed Nov 11 2026. No macro, syntax, notation, axiom, sorry.
-/
import Derived.Test.YtjjpeeppfnhiiaaChecked
import GoSem.Claim
import GoSem.ClaimJoined
import GoSem.ClaimMapViews
import Derived.JoinedTies
import Derived.KernelRfl
namespace Go.Proofs.Ytjjpeeppfnhiiaa
/- THE CELL 'sum', in the pinned program and in every row, IS THE sha256 OF THE DUMP (.gsa) THAT YtjjpeeppfnhiiaaProg.lean LOADS. Nothing in Lean hashes anything: it is a label: what it is worth is what the hold of that sum in a sandbox is worth. -/
noncomputable def Try.pinned : Pinned := { name := "ytjjpeeppfnhiiaa", sum := "5c25c70a7ffcc0c602c7c01f66b28b3ae2306a3351c9e2f27798bc4b86120272", checked := Try.checked }
namespace Rows
def none {H : Type} : Left H := { results := [], args := [] }

/-- 'partywalllaw27.RuleOne': WHATEVER THE INPUT: true; the input reads as it did. -/
def ruleOneSpec : ChangeSpec := { name := "ruleOne", fn := fun _ => fun
  | [d1, d2] => { results := [.lit (.bool true)], args := [d1, d2] }
  | _ => none }
def ruleOneRow : OpenClaim := { program := "ytjjpeeppfnhiiaa", sum := "5c25c70a7ffcc0c602c7c01f66b28b3ae2306a3351c9e2f27798bc4b86120272", func := "partywall/partywalllaw27.RuleOne", spec := "ruleOne", apart := false }
def RuleOneSaid : Prop := ruleOneRow.holds Try.pinned (OpenSpec.ofChange ruleOneSpec)

/-- ITS FALSE NEIGHBOUR: 'it returns false'. Refute it at one input. -/
def ruleOneWrong : ChangeSpec := { name := "ruleOne", fn := fun _ => fun
  | [d1, d2] => { results := [.lit (.bool false)], args := [d1, d2] }
  | _ => none }
def RuleOneWrongFalsely : Prop := ruleOneRow.holds Try.pinned (OpenSpec.ofChange ruleOneWrong)

/-- 'partywalllaw27.RuleReleases': WHATEVER THE INPUT: true; the input reads as it did. -/
def ruleReleasesSpec : ChangeSpec := { name := "ruleReleases", fn := fun _ => fun
  | [d1, d2, d3, d4, d5] => { results := [.lit (.bool true)], args := [d1, d2, d3, d4, d5] }
  | _ => none }
def ruleReleasesRow : OpenClaim := { program := "ytjjpeeppfnhiiaa", sum := "5c25c70a7ffcc0c602c7c01f66b28b3ae2306a3351c9e2f27798bc4b86120272", func := "partywall/partywalllaw27.RuleReleases", spec := "ruleReleases", unfollowed := true, recurses := true, apart := false }
def RuleReleasesSaid : Prop := ruleReleasesRow.holds Try.pinned (OpenSpec.ofChange ruleReleasesSpec)

/-- ITS FALSE NEIGHBOUR: 'it returns false'. Refute it at one input. -/
def ruleReleasesWrong : ChangeSpec := { name := "ruleReleases", fn := fun _ => fun
  | [d1, d2, d3, d4, d5] => { results := [.lit (.bool false)], args := [d1, d2, d3, d4, d5] }
  | _ => none }
def RuleReleasesWrongFalsely : Prop := ruleReleasesRow.holds Try.pinned (OpenSpec.ofChange ruleReleasesWrong)

/-- 'partywalllaw27.RuleFlows': WHATEVER THE INPUT: true; the input reads as it did. -/
def ruleFlowsSpec : ChangeSpec := { name := "ruleFlows", fn := fun _ => fun
  | [d1, d2, d3, d4] => { results := [.lit (.bool true)], args := [d1, d2, d3, d4] }
  | _ => none }
def ruleFlowsRow : OpenClaim := { program := "ytjjpeeppfnhiiaa", sum := "5c25c70a7ffcc0c602c7c01f66b28b3ae2306a3351c9e2f27798bc4b86120272", func := "partywall/partywalllaw27.RuleFlows", spec := "ruleFlows", unfollowed := true, recurses := true, apart := false }
def RuleFlowsSaid : Prop := ruleFlowsRow.holds Try.pinned (OpenSpec.ofChange ruleFlowsSpec)

/-- ITS FALSE NEIGHBOUR: 'it returns false'. Refute it at one input. -/
def ruleFlowsWrong : ChangeSpec := { name := "ruleFlows", fn := fun _ => fun
  | [d1, d2, d3, d4] => { results := [.lit (.bool false)], args := [d1, d2, d3, d4] }
  | _ => none }
def RuleFlowsWrongFalsely : Prop := ruleFlowsRow.holds Try.pinned (OpenSpec.ofChange ruleFlowsWrong)

/-- 'partywalllaw27.RuleLists': WHATEVER THE INPUT: true; the input reads as it did. -/
def ruleListsSpec : ChangeSpec := { name := "ruleLists", fn := fun _ => fun
  | [d1, d2, d3, d4, d5] => { results := [.lit (.bool true)], args := [d1, d2, d3, d4, d5] }
  | _ => none }
def ruleListsRow : OpenClaim := { program := "ytjjpeeppfnhiiaa", sum := "5c25c70a7ffcc0c602c7c01f66b28b3ae2306a3351c9e2f27798bc4b86120272", func := "partywall/partywalllaw27.RuleLists", spec := "ruleLists", unfollowed := true, recurses := true, apart := false }
def RuleListsSaid : Prop := ruleListsRow.holds Try.pinned (OpenSpec.ofChange ruleListsSpec)

/-- ITS FALSE NEIGHBOUR: 'it returns false'. Refute it at one input. -/
def ruleListsWrong : ChangeSpec := { name := "ruleLists", fn := fun _ => fun
  | [d1, d2, d3, d4, d5] => { results := [.lit (.bool false)], args := [d1, d2, d3, d4, d5] }
  | _ => none }
def RuleListsWrongFalsely : Prop := ruleListsRow.holds Try.pinned (OpenSpec.ofChange ruleListsWrong)

/-- 'partywalllaw27.RuleKnown': WHATEVER THE INPUT: true; the input reads as it did. -/
def ruleKnownSpec : ChangeSpec := { name := "ruleKnown", fn := fun _ => fun
  | [] => { results := [.lit (.bool true)], args := [] }
  | _ => none }
def ruleKnownRow : OpenClaim := { program := "ytjjpeeppfnhiiaa", sum := "5c25c70a7ffcc0c602c7c01f66b28b3ae2306a3351c9e2f27798bc4b86120272", func := "partywall/partywalllaw27.RuleKnown", spec := "ruleKnown", unfollowed := true, recurses := true, apart := false }
def RuleKnownSaid : Prop := ruleKnownRow.holds Try.pinned (OpenSpec.ofChange ruleKnownSpec)

/-- ITS FALSE NEIGHBOUR: 'it returns false'. Refute it at one input. -/
def ruleKnownWrong : ChangeSpec := { name := "ruleKnown", fn := fun _ => fun
  | [] => { results := [.lit (.bool false)], args := [] }
  | _ => none }
def RuleKnownWrongFalsely : Prop := ruleKnownRow.holds Try.pinned (OpenSpec.ofChange ruleKnownWrong)

/- THE SECOND FORM. 'bulk': how many values and letters a reading holds, each counted each time it is reached (what is shared counts as often as it is met; a slice's spare places count too). A statement '..UptoSaid' is the law's where the arguments, and the package variables that the reading takes, are together of bulk at most 1048576: NARROWER than '..Said'. Prove '..Said' where nothing that the law and all that it calls make is longer than what came in: it says more and counts as full. Else prove '..UptoSaid'. A law counts once. -/
mutual
def uptoBulk {H : Type} : DataW H → Nat
  | .lit (.string bytes) => bytes.length + 1
  | .lit _ => 1
  | .nil => 1
  | .ptr d => uptoBulk d + 1
  | .slice elems spare => uptoBulkAll elems + uptoBulkAll spare + 1
  | .agg parts => uptoBulkAll parts + 1
  | .iface _ d => uptoBulk d + 1
  | .map entries => uptoBulkEntries entries + 1
  | .held _ => 1
def uptoBulkAll {H : Type} : List (DataW H) → Nat
  | [] => 0
  | d :: r => uptoBulk d + uptoBulkAll r
def uptoBulkEntries {H : Type} : List (Lit × DataW H) → Nat
  | [] => 0
  | x :: r => uptoBulkEntry x + uptoBulkEntries r
def uptoBulkEntry {H : Type} : Lit × DataW H → Nat
  | (.string bytes, d) => bytes.length + uptoBulk d + 1
  | (_, d) => uptoBulk d + 1
 end
def uptoSmall : (H : Type) → List (DataW H) → Bool := fun _ ds => decide (uptoBulkAll ds ≤ 1048576)
def OpenSpec.upto (s : _root_.Go.ChangeSpec) : _root_.Go.OpenSpec := { _root_.Go.OpenSpec.ofChange s with cond := some uptoSmall }

/-- 'partywalllaw27.RuleOne', WHERE WHAT IT READS IS OF BULK AT MOST 1048576: true; the input reads as it did. -/
def ruleOneUptoRow : OpenClaim := { program := "ytjjpeeppfnhiiaa", sum := "5c25c70a7ffcc0c602c7c01f66b28b3ae2306a3351c9e2f27798bc4b86120272", func := "partywall/partywalllaw27.RuleOne", spec := "ruleOne", apart := false, narrowed := true }
def RuleOneUptoSaid : Prop := ruleOneUptoRow.holds Try.pinned (OpenSpec.upto ruleOneSpec)

/-- 'partywalllaw27.RuleReleases', WHERE WHAT IT READS IS OF BULK AT MOST 1048576: true; the input reads as it did. -/
def ruleReleasesUptoRow : OpenClaim := { program := "ytjjpeeppfnhiiaa", sum := "5c25c70a7ffcc0c602c7c01f66b28b3ae2306a3351c9e2f27798bc4b86120272", func := "partywall/partywalllaw27.RuleReleases", spec := "ruleReleases", unfollowed := true, recurses := true, apart := false, narrowed := true }
def RuleReleasesUptoSaid : Prop := ruleReleasesUptoRow.holds Try.pinned (OpenSpec.upto ruleReleasesSpec)

/-- 'partywalllaw27.RuleFlows', WHERE WHAT IT READS IS OF BULK AT MOST 1048576: true; the input reads as it did. -/
def ruleFlowsUptoRow : OpenClaim := { program := "ytjjpeeppfnhiiaa", sum := "5c25c70a7ffcc0c602c7c01f66b28b3ae2306a3351c9e2f27798bc4b86120272", func := "partywall/partywalllaw27.RuleFlows", spec := "ruleFlows", unfollowed := true, recurses := true, apart := false, narrowed := true }
def RuleFlowsUptoSaid : Prop := ruleFlowsUptoRow.holds Try.pinned (OpenSpec.upto ruleFlowsSpec)

/-- 'partywalllaw27.RuleLists', WHERE WHAT IT READS IS OF BULK AT MOST 1048576: true; the input reads as it did. -/
def ruleListsUptoRow : OpenClaim := { program := "ytjjpeeppfnhiiaa", sum := "5c25c70a7ffcc0c602c7c01f66b28b3ae2306a3351c9e2f27798bc4b86120272", func := "partywall/partywalllaw27.RuleLists", spec := "ruleLists", unfollowed := true, recurses := true, apart := false, narrowed := true }
def RuleListsUptoSaid : Prop := ruleListsUptoRow.holds Try.pinned (OpenSpec.upto ruleListsSpec)

/-- 'partywalllaw27.RuleKnown', WHERE WHAT IT READS IS OF BULK AT MOST 1048576: true; the input reads as it did. -/
def ruleKnownUptoRow : OpenClaim := { program := "ytjjpeeppfnhiiaa", sum := "5c25c70a7ffcc0c602c7c01f66b28b3ae2306a3351c9e2f27798bc4b86120272", func := "partywall/partywalllaw27.RuleKnown", spec := "ruleKnown", unfollowed := true, recurses := true, apart := false, narrowed := true }
def RuleKnownUptoSaid : Prop := ruleKnownUptoRow.holds Try.pinned (OpenSpec.upto ruleKnownSpec)

end Rows
end Go.Proofs.Ytjjpeeppfnhiiaa
