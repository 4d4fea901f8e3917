/-
  No cell of these rows narrows 'for every input' (looked for: loops, veiled, ifaces, maps, wideKeys, modest, calm, conditions, laid).
  DERIVED. THE GIVEN ROWS OF THIS SEAT. 11 by the template 'for every input the law returns true; each argument reads behind the call as it read before'; 0 by the template 'total and deterministic' (their statements: YtjcfnooplhoheaaTotals.lean).
  GIVEN WITH THE SEED: the statements are not yours to turn. If you find one false, say at which input.
  Laid BY PROGRAM, IN A SANDBOX (cutbox-rows.mjs): the forced cells as the released guide's own fill.sh prints them over the translation 940f154ee9c7a629… (all of the seat's roots in one cut). By AI agents, Wed Nov 11 2026. No macro, syntax, notation, axiom, sorry.
-/
import Derived.Test.YtjcfnooplhoheaaChecked
import GoSem.Claim
import GoSem.ClaimJoined
import GoSem.ClaimMapViews
import Derived.JoinedTies
import Derived.KernelRfl
namespace Go.Proofs.Ytjcfnooplhoheaa
/- THE CELL 'sum', in the pinned program and in every row, IS THE sha256 OF THE DUMP (.gsa) THAT YtjcfnooplhoheaaProg.lean LOADS. Nothing in Lean hashes anything: it is a label: what it is worth is what the hold of that sum in a sandbox is worth. -/
noncomputable def Try.pinned : Pinned := { name := "ytjcfnooplhoheaa", sum := "940f154ee9c7a629bc194c6cc4feb9ac92daf9c48b910f14b4767b7c62043758", checked := Try.checked }
namespace Rows
def none {H : Type} : Left H := { results := [], args := [] }

/-- 'partywalllaw22.ConfigTenants': WHATEVER THE INPUT: true; the input reads as it did. -/
def configTenantsSpec : ChangeSpec := { name := "configTenants", fn := fun _ => fun
  | [d1, d2, d3] => { results := [.lit (.bool true)], args := [d1, d2, d3] }
  | _ => none }
def configTenantsRow : OpenClaim := { program := "ytjcfnooplhoheaa", sum := "940f154ee9c7a629bc194c6cc4feb9ac92daf9c48b910f14b4767b7c62043758", func := "partywall/partywalllaw22.ConfigTenants", spec := "configTenants", unfollowed := true, recurses := true, apart := false }
def ConfigTenantsSaid : Prop := configTenantsRow.holds Try.pinned (OpenSpec.ofChange configTenantsSpec)

/-- ITS FALSE NEIGHBOUR: 'it returns false'. Refute it at one input. -/
def configTenantsWrong : ChangeSpec := { name := "configTenants", fn := fun _ => fun
  | [d1, d2, d3] => { results := [.lit (.bool false)], args := [d1, d2, d3] }
  | _ => none }
def ConfigTenantsWrongFalsely : Prop := configTenantsRow.holds Try.pinned (OpenSpec.ofChange configTenantsWrong)

/-- 'partywalllaw25.QuotaUses': WHATEVER THE INPUT: true; the input reads as it did. -/
def quotaUsesSpec : ChangeSpec := { name := "quotaUses", fn := fun _ => fun
  | [d1, d2, d3] => { results := [.lit (.bool true)], args := [d1, d2, d3] }
  | _ => none }
def quotaUsesRow : OpenClaim := { program := "ytjcfnooplhoheaa", sum := "940f154ee9c7a629bc194c6cc4feb9ac92daf9c48b910f14b4767b7c62043758", func := "partywall/partywalllaw25.QuotaUses", spec := "quotaUses", unfollowed := true, recurses := true, apart := false }
def QuotaUsesSaid : Prop := quotaUsesRow.holds Try.pinned (OpenSpec.ofChange quotaUsesSpec)

/-- ITS FALSE NEIGHBOUR: 'it returns false'. Refute it at one input. -/
def quotaUsesWrong : ChangeSpec := { name := "quotaUses", fn := fun _ => fun
  | [d1, d2, d3] => { results := [.lit (.bool false)], args := [d1, d2, d3] }
  | _ => none }
def QuotaUsesWrongFalsely : Prop := quotaUsesRow.holds Try.pinned (OpenSpec.ofChange quotaUsesWrong)

/-- 'partywalllaw25.QuotaLooks': WHATEVER THE INPUT: true; the input reads as it did. -/
def quotaLooksSpec : ChangeSpec := { name := "quotaLooks", fn := fun _ => fun
  | [d1, d2, d3, d4] => { results := [.lit (.bool true)], args := [d1, d2, d3, d4] }
  | _ => none }
def quotaLooksRow : OpenClaim := { program := "ytjcfnooplhoheaa", sum := "940f154ee9c7a629bc194c6cc4feb9ac92daf9c48b910f14b4767b7c62043758", func := "partywall/partywalllaw25.QuotaLooks", spec := "quotaLooks", unfollowed := true, recurses := true, apart := false }
def QuotaLooksSaid : Prop := quotaLooksRow.holds Try.pinned (OpenSpec.ofChange quotaLooksSpec)

/-- ITS FALSE NEIGHBOUR: 'it returns false'. Refute it at one input. -/
def quotaLooksWrong : ChangeSpec := { name := "quotaLooks", fn := fun _ => fun
  | [d1, d2, d3, d4] => { results := [.lit (.bool false)], args := [d1, d2, d3, d4] }
  | _ => none }
def QuotaLooksWrongFalsely : Prop := quotaLooksRow.holds Try.pinned (OpenSpec.ofChange quotaLooksWrong)

/-- 'partywalllaw25.QuotaKnown': WHATEVER THE INPUT: true; the input reads as it did. -/
def quotaKnownSpec : ChangeSpec := { name := "quotaKnown", fn := fun _ => fun
  | [] => { results := [.lit (.bool true)], args := [] }
  | _ => none }
def quotaKnownRow : OpenClaim := { program := "ytjcfnooplhoheaa", sum := "940f154ee9c7a629bc194c6cc4feb9ac92daf9c48b910f14b4767b7c62043758", func := "partywall/partywalllaw25.QuotaKnown", spec := "quotaKnown", unfollowed := true, recurses := true, apart := false }
def QuotaKnownSaid : Prop := quotaKnownRow.holds Try.pinned (OpenSpec.ofChange quotaKnownSpec)

/-- ITS FALSE NEIGHBOUR: 'it returns false'. Refute it at one input. -/
def quotaKnownWrong : ChangeSpec := { name := "quotaKnown", fn := fun _ => fun
  | [] => { results := [.lit (.bool false)], args := [] }
  | _ => none }
def QuotaKnownWrongFalsely : Prop := quotaKnownRow.holds Try.pinned (OpenSpec.ofChange quotaKnownWrong)

/-- 'partywalllaw25.QuotaCounts': WHATEVER THE INPUT: true; the input reads as it did. -/
def quotaCountsSpec : ChangeSpec := { name := "quotaCounts", fn := fun _ => fun
  | [d1, d2, d3] => { results := [.lit (.bool true)], args := [d1, d2, d3] }
  | _ => none }
def quotaCountsRow : OpenClaim := { program := "ytjcfnooplhoheaa", sum := "940f154ee9c7a629bc194c6cc4feb9ac92daf9c48b910f14b4767b7c62043758", func := "partywall/partywalllaw25.QuotaCounts", spec := "quotaCounts", unfollowed := true, recurses := true, apart := false }
def QuotaCountsSaid : Prop := quotaCountsRow.holds Try.pinned (OpenSpec.ofChange quotaCountsSpec)

/-- ITS FALSE NEIGHBOUR: 'it returns false'. Refute it at one input. -/
def quotaCountsWrong : ChangeSpec := { name := "quotaCounts", fn := fun _ => fun
  | [d1, d2, d3] => { results := [.lit (.bool false)], args := [d1, d2, d3] }
  | _ => none }
def QuotaCountsWrongFalsely : Prop := quotaCountsRow.holds Try.pinned (OpenSpec.ofChange quotaCountsWrong)

/-- 'partywalllaw25.QuotaBlind': WHATEVER THE INPUT: true; the input reads as it did. -/
def quotaBlindSpec : ChangeSpec := { name := "quotaBlind", fn := fun _ => fun
  | [d1, d2, d3, d4] => { results := [.lit (.bool true)], args := [d1, d2, d3, d4] }
  | _ => none }
def quotaBlindRow : OpenClaim := { program := "ytjcfnooplhoheaa", sum := "940f154ee9c7a629bc194c6cc4feb9ac92daf9c48b910f14b4767b7c62043758", func := "partywall/partywalllaw25.QuotaBlind", spec := "quotaBlind", unfollowed := true, recurses := true, apart := false }
def QuotaBlindSaid : Prop := quotaBlindRow.holds Try.pinned (OpenSpec.ofChange quotaBlindSpec)

/-- ITS FALSE NEIGHBOUR: 'it returns false'. Refute it at one input. -/
def quotaBlindWrong : ChangeSpec := { name := "quotaBlind", fn := fun _ => fun
  | [d1, d2, d3, d4] => { results := [.lit (.bool false)], args := [d1, d2, d3, d4] }
  | _ => none }
def QuotaBlindWrongFalsely : Prop := quotaBlindRow.holds Try.pinned (OpenSpec.ofChange quotaBlindWrong)

/-- 'partywalllaw22.ConfigLooks': WHATEVER THE INPUT: true; the input reads as it did. -/
def configLooksSpec : ChangeSpec := { name := "configLooks", fn := fun _ => fun
  | [d1, d2] => { results := [.lit (.bool true)], args := [d1, d2] }
  | _ => none }
def configLooksRow : OpenClaim := { program := "ytjcfnooplhoheaa", sum := "940f154ee9c7a629bc194c6cc4feb9ac92daf9c48b910f14b4767b7c62043758", func := "partywall/partywalllaw22.ConfigLooks", spec := "configLooks", unfollowed := true, recurses := true, apart := false }
def ConfigLooksSaid : Prop := configLooksRow.holds Try.pinned (OpenSpec.ofChange configLooksSpec)

/-- ITS FALSE NEIGHBOUR: 'it returns false'. Refute it at one input. -/
def configLooksWrong : ChangeSpec := { name := "configLooks", fn := fun _ => fun
  | [d1, d2] => { results := [.lit (.bool false)], args := [d1, d2] }
  | _ => none }
def ConfigLooksWrongFalsely : Prop := configLooksRow.holds Try.pinned (OpenSpec.ofChange configLooksWrong)

/-- 'partywalllaw22.ConfigKnown': WHATEVER THE INPUT: true; the input reads as it did. -/
def configKnownSpec : ChangeSpec := { name := "configKnown", fn := fun _ => fun
  | [] => { results := [.lit (.bool true)], args := [] }
  | _ => none }
def configKnownRow : OpenClaim := { program := "ytjcfnooplhoheaa", sum := "940f154ee9c7a629bc194c6cc4feb9ac92daf9c48b910f14b4767b7c62043758", func := "partywall/partywalllaw22.ConfigKnown", spec := "configKnown", unfollowed := true, recurses := true, apart := false }
def ConfigKnownSaid : Prop := configKnownRow.holds Try.pinned (OpenSpec.ofChange configKnownSpec)

/-- ITS FALSE NEIGHBOUR: 'it returns false'. Refute it at one input. -/
def configKnownWrong : ChangeSpec := { name := "configKnown", fn := fun _ => fun
  | [] => { results := [.lit (.bool false)], args := [] }
  | _ => none }
def ConfigKnownWrongFalsely : Prop := configKnownRow.holds Try.pinned (OpenSpec.ofChange configKnownWrong)

/-- 'partywalllaw22.ConfigSees': WHATEVER THE INPUT: true; the input reads as it did. -/
def configSeesSpec : ChangeSpec := { name := "configSees", fn := fun _ => fun
  | [d1, d2, d3] => { results := [.lit (.bool true)], args := [d1, d2, d3] }
  | _ => none }
def configSeesRow : OpenClaim := { program := "ytjcfnooplhoheaa", sum := "940f154ee9c7a629bc194c6cc4feb9ac92daf9c48b910f14b4767b7c62043758", func := "partywall/partywalllaw22.ConfigSees", spec := "configSees", unfollowed := true, recurses := true, apart := false }
def ConfigSeesSaid : Prop := configSeesRow.holds Try.pinned (OpenSpec.ofChange configSeesSpec)

/-- ITS FALSE NEIGHBOUR: 'it returns false'. Refute it at one input. -/
def configSeesWrong : ChangeSpec := { name := "configSees", fn := fun _ => fun
  | [d1, d2, d3] => { results := [.lit (.bool false)], args := [d1, d2, d3] }
  | _ => none }
def ConfigSeesWrongFalsely : Prop := configSeesRow.holds Try.pinned (OpenSpec.ofChange configSeesWrong)

/-- 'partywalllaw22.ConfigBelow': WHATEVER THE INPUT: true; the input reads as it did. -/
def configBelowSpec : ChangeSpec := { name := "configBelow", fn := fun _ => fun
  | [d1, d2, d3] => { results := [.lit (.bool true)], args := [d1, d2, d3] }
  | _ => none }
def configBelowRow : OpenClaim := { program := "ytjcfnooplhoheaa", sum := "940f154ee9c7a629bc194c6cc4feb9ac92daf9c48b910f14b4767b7c62043758", func := "partywall/partywalllaw22.ConfigBelow", spec := "configBelow", unfollowed := true, recurses := true, apart := false }
def ConfigBelowSaid : Prop := configBelowRow.holds Try.pinned (OpenSpec.ofChange configBelowSpec)

/-- ITS FALSE NEIGHBOUR: 'it returns false'. Refute it at one input. -/
def configBelowWrong : ChangeSpec := { name := "configBelow", fn := fun _ => fun
  | [d1, d2, d3] => { results := [.lit (.bool false)], args := [d1, d2, d3] }
  | _ => none }
def ConfigBelowWrongFalsely : Prop := configBelowRow.holds Try.pinned (OpenSpec.ofChange configBelowWrong)

/-- 'partywalllaw22.ConfigLess': WHATEVER THE INPUT: true; the input reads as it did. -/
def configLessSpec : ChangeSpec := { name := "configLess", fn := fun _ => fun
  | [d1, d2, d3] => { results := [.lit (.bool true)], args := [d1, d2, d3] }
  | _ => none }
def configLessRow : OpenClaim := { program := "ytjcfnooplhoheaa", sum := "940f154ee9c7a629bc194c6cc4feb9ac92daf9c48b910f14b4767b7c62043758", func := "partywall/partywalllaw22.ConfigLess", spec := "configLess", unfollowed := true, recurses := true, apart := false }
def ConfigLessSaid : Prop := configLessRow.holds Try.pinned (OpenSpec.ofChange configLessSpec)

/-- ITS FALSE NEIGHBOUR: 'it returns false'. Refute it at one input. -/
def configLessWrong : ChangeSpec := { name := "configLess", fn := fun _ => fun
  | [d1, d2, d3] => { results := [.lit (.bool false)], args := [d1, d2, d3] }
  | _ => none }
def ConfigLessWrongFalsely : Prop := configLessRow.holds Try.pinned (OpenSpec.ofChange configLessWrong)

/- THE SECOND FORM. 'bulk': how many values and letters a reading holds, each counted each time it is reached (what is shared counts as often as it is met; a slice's spare places count too). A statement '..UptoSaid' is the law's where the arguments, and the package variables that the reading takes, are together of bulk at most 1048576: NARROWER than '..Said'. Prove '..Said' where nothing that the law and all that it calls make is longer than what came in: it says more and counts as full. Else prove '..UptoSaid'. A law counts once. -/
mutual
def uptoBulk {H : Type} : DataW H → Nat
  | .lit (.string bytes) => bytes.length + 1
  | .lit _ => 1
  | .nil => 1
  | .ptr d => uptoBulk d + 1
  | .slice elems spare => uptoBulkAll elems + uptoBulkAll spare + 1
  | .agg parts => uptoBulkAll parts + 1
  | .iface _ d => uptoBulk d + 1
  | .map entries => uptoBulkEntries entries + 1
  | .held _ => 1
def uptoBulkAll {H : Type} : List (DataW H) → Nat
  | [] => 0
  | d :: r => uptoBulk d + uptoBulkAll r
def uptoBulkEntries {H : Type} : List (Lit × DataW H) → Nat
  | [] => 0
  | x :: r => uptoBulkEntry x + uptoBulkEntries r
def uptoBulkEntry {H : Type} : Lit × DataW H → Nat
  | (.string bytes, d) => bytes.length + uptoBulk d + 1
  | (_, d) => uptoBulk d + 1
 end
def uptoSmall : (H : Type) → List (DataW H) → Bool := fun _ ds => decide (uptoBulkAll ds ≤ 1048576)
def OpenSpec.upto (s : _root_.Go.ChangeSpec) : _root_.Go.OpenSpec := { _root_.Go.OpenSpec.ofChange s with cond := some uptoSmall }

/-- 'partywalllaw22.ConfigTenants', WHERE WHAT IT READS IS OF BULK AT MOST 1048576: true; the input reads as it did. -/
def configTenantsUptoRow : OpenClaim := { program := "ytjcfnooplhoheaa", sum := "940f154ee9c7a629bc194c6cc4feb9ac92daf9c48b910f14b4767b7c62043758", func := "partywall/partywalllaw22.ConfigTenants", spec := "configTenants", unfollowed := true, recurses := true, apart := false, narrowed := true }
def ConfigTenantsUptoSaid : Prop := configTenantsUptoRow.holds Try.pinned (OpenSpec.upto configTenantsSpec)

/-- 'partywalllaw25.QuotaUses', WHERE WHAT IT READS IS OF BULK AT MOST 1048576: true; the input reads as it did. -/
def quotaUsesUptoRow : OpenClaim := { program := "ytjcfnooplhoheaa", sum := "940f154ee9c7a629bc194c6cc4feb9ac92daf9c48b910f14b4767b7c62043758", func := "partywall/partywalllaw25.QuotaUses", spec := "quotaUses", unfollowed := true, recurses := true, apart := false, narrowed := true }
def QuotaUsesUptoSaid : Prop := quotaUsesUptoRow.holds Try.pinned (OpenSpec.upto quotaUsesSpec)

/-- 'partywalllaw25.QuotaLooks', WHERE WHAT IT READS IS OF BULK AT MOST 1048576: true; the input reads as it did. -/
def quotaLooksUptoRow : OpenClaim := { program := "ytjcfnooplhoheaa", sum := "940f154ee9c7a629bc194c6cc4feb9ac92daf9c48b910f14b4767b7c62043758", func := "partywall/partywalllaw25.QuotaLooks", spec := "quotaLooks", unfollowed := true, recurses := true, apart := false, narrowed := true }
def QuotaLooksUptoSaid : Prop := quotaLooksUptoRow.holds Try.pinned (OpenSpec.upto quotaLooksSpec)

/-- 'partywalllaw25.QuotaKnown', WHERE WHAT IT READS IS OF BULK AT MOST 1048576: true; the input reads as it did. -/
def quotaKnownUptoRow : OpenClaim := { program := "ytjcfnooplhoheaa", sum := "940f154ee9c7a629bc194c6cc4feb9ac92daf9c48b910f14b4767b7c62043758", func := "partywall/partywalllaw25.QuotaKnown", spec := "quotaKnown", unfollowed := true, recurses := true, apart := false, narrowed := true }
def QuotaKnownUptoSaid : Prop := quotaKnownUptoRow.holds Try.pinned (OpenSpec.upto quotaKnownSpec)

/-- 'partywalllaw25.QuotaCounts', WHERE WHAT IT READS IS OF BULK AT MOST 1048576: true; the input reads as it did. -/
def quotaCountsUptoRow : OpenClaim := { program := "ytjcfnooplhoheaa", sum := "940f154ee9c7a629bc194c6cc4feb9ac92daf9c48b910f14b4767b7c62043758", func := "partywall/partywalllaw25.QuotaCounts", spec := "quotaCounts", unfollowed := true, recurses := true, apart := false, narrowed := true }
def QuotaCountsUptoSaid : Prop := quotaCountsUptoRow.holds Try.pinned (OpenSpec.upto quotaCountsSpec)

/-- 'partywalllaw25.QuotaBlind', WHERE WHAT IT READS IS OF BULK AT MOST 1048576: true; the input reads as it did. -/
def quotaBlindUptoRow : OpenClaim := { program := "ytjcfnooplhoheaa", sum := "940f154ee9c7a629bc194c6cc4feb9ac92daf9c48b910f14b4767b7c62043758", func := "partywall/partywalllaw25.QuotaBlind", spec := "quotaBlind", unfollowed := true, recurses := true, apart := false, narrowed := true }
def QuotaBlindUptoSaid : Prop := quotaBlindUptoRow.holds Try.pinned (OpenSpec.upto quotaBlindSpec)

/-- 'partywalllaw22.ConfigLooks', WHERE WHAT IT READS IS OF BULK AT MOST 1048576: true; the input reads as it did. -/
def configLooksUptoRow : OpenClaim := { program := "ytjcfnooplhoheaa", sum := "940f154ee9c7a629bc194c6cc4feb9ac92daf9c48b910f14b4767b7c62043758", func := "partywall/partywalllaw22.ConfigLooks", spec := "configLooks", unfollowed := true, recurses := true, apart := false, narrowed := true }
def ConfigLooksUptoSaid : Prop := configLooksUptoRow.holds Try.pinned (OpenSpec.upto configLooksSpec)

/-- 'partywalllaw22.ConfigKnown', WHERE WHAT IT READS IS OF BULK AT MOST 1048576: true; the input reads as it did. -/
def configKnownUptoRow : OpenClaim := { program := "ytjcfnooplhoheaa", sum := "940f154ee9c7a629bc194c6cc4feb9ac92daf9c48b910f14b4767b7c62043758", func := "partywall/partywalllaw22.ConfigKnown", spec := "configKnown", unfollowed := true, recurses := true, apart := false, narrowed := true }
def ConfigKnownUptoSaid : Prop := configKnownUptoRow.holds Try.pinned (OpenSpec.upto configKnownSpec)

/-- 'partywalllaw22.ConfigSees', WHERE WHAT IT READS IS OF BULK AT MOST 1048576: true; the input reads as it did. -/
def configSeesUptoRow : OpenClaim := { program := "ytjcfnooplhoheaa", sum := "940f154ee9c7a629bc194c6cc4feb9ac92daf9c48b910f14b4767b7c62043758", func := "partywall/partywalllaw22.ConfigSees", spec := "configSees", unfollowed := true, recurses := true, apart := false, narrowed := true }
def ConfigSeesUptoSaid : Prop := configSeesUptoRow.holds Try.pinned (OpenSpec.upto configSeesSpec)

/-- 'partywalllaw22.ConfigBelow', WHERE WHAT IT READS IS OF BULK AT MOST 1048576: true; the input reads as it did. -/
def configBelowUptoRow : OpenClaim := { program := "ytjcfnooplhoheaa", sum := "940f154ee9c7a629bc194c6cc4feb9ac92daf9c48b910f14b4767b7c62043758", func := "partywall/partywalllaw22.ConfigBelow", spec := "configBelow", unfollowed := true, recurses := true, apart := false, narrowed := true }
def ConfigBelowUptoSaid : Prop := configBelowUptoRow.holds Try.pinned (OpenSpec.upto configBelowSpec)

/-- 'partywalllaw22.ConfigLess', WHERE WHAT IT READS IS OF BULK AT MOST 1048576: true; the input reads as it did. -/
def configLessUptoRow : OpenClaim := { program := "ytjcfnooplhoheaa", sum := "940f154ee9c7a629bc194c6cc4feb9ac92daf9c48b910f14b4767b7c62043758", func := "partywall/partywalllaw22.ConfigLess", spec := "configLess", unfollowed := true, recurses := true, apart := false, narrowed := true }
def ConfigLessUptoSaid : Prop := configLessUptoRow.holds Try.pinned (OpenSpec.upto configLessSpec)

end Rows
end Go.Proofs.Ytjcfnooplhoheaa
