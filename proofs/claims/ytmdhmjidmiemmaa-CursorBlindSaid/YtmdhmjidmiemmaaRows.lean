/-
  No cell of these rows narrows 'for every input' (looked for: loops, veiled, ifaces, maps, wideKeys, modest, calm, conditions, laid).
  DERIVED. THE GIVEN ROWS OF THIS SEAT. 6 by the template 'for every input the law returns true; each argument reads behind the call as it read before'; 0 by the template 'total and deterministic' (their statements: YtmdhmjidmiemmaaTotals.lean).
  GIVEN WITH THE SEED: the statements are not yours to turn. If you find one false, say at which input.
  Laid BY PROGRAM, IN A SANDBOX (cutbox-rows.mjs): the forced cells as the released guide's own fill.sh prints them over the translation 45a8a3bf2ec73b95… (all of the seat's roots in one cut). By AI agents, Wed Nov 11 2026. No macro, syntax, notation, axiom, sorry.
-/
import Derived.Test.YtmdhmjidmiemmaaChecked
import GoSem.Claim
import GoSem.ClaimJoined
import GoSem.ClaimMapViews
import Derived.JoinedTies
import Derived.KernelRfl
namespace Go.Proofs.Ytmdhmjidmiemmaa
/- THE CELL 'sum', in the pinned program and in every row, IS THE sha256 OF THE DUMP (.gsa) THAT YtmdhmjidmiemmaaProg.lean LOADS. Nothing in Lean hashes anything: it is a label: what it is worth is what the hold of that sum in a sandbox is worth. -/
noncomputable def Try.pinned : Pinned := { name := "ytmdhmjidmiemmaa", sum := "45a8a3bf2ec73b955d44a29b397050538a8ef382513267f7ecb4f0a279e0eae2", checked := Try.checked }
namespace Rows
def none {H : Type} : Left H := { results := [], args := [] }

/-- 'partywalllaw24.CursorGrows': WHATEVER THE INPUT: true; the input reads as it did. -/
def cursorGrowsSpec : ChangeSpec := { name := "cursorGrows", fn := fun _ => fun
  | [d1, d2, d3, d4] => { results := [.lit (.bool true)], args := [d1, d2, d3, d4] }
  | _ => none }
def cursorGrowsRow : OpenClaim := { program := "ytmdhmjidmiemmaa", sum := "45a8a3bf2ec73b955d44a29b397050538a8ef382513267f7ecb4f0a279e0eae2", func := "partywall/partywalllaw24.CursorGrows", spec := "cursorGrows", unfollowed := true, recurses := true, apart := false }
def CursorGrowsSaid : Prop := cursorGrowsRow.holds Try.pinned (OpenSpec.ofChange cursorGrowsSpec)

/-- ITS FALSE NEIGHBOUR: 'it returns false'. Refute it at one input. -/
def cursorGrowsWrong : ChangeSpec := { name := "cursorGrows", fn := fun _ => fun
  | [d1, d2, d3, d4] => { results := [.lit (.bool false)], args := [d1, d2, d3, d4] }
  | _ => none }
def CursorGrowsWrongFalsely : Prop := cursorGrowsRow.holds Try.pinned (OpenSpec.ofChange cursorGrowsWrong)

/-- 'partywalllaw24.CursorTells': WHATEVER THE INPUT: true; the input reads as it did. -/
def cursorTellsSpec : ChangeSpec := { name := "cursorTells", fn := fun _ => fun
  | [d1, d2] => { results := [.lit (.bool true)], args := [d1, d2] }
  | _ => none }
def cursorTellsRow : OpenClaim := { program := "ytmdhmjidmiemmaa", sum := "45a8a3bf2ec73b955d44a29b397050538a8ef382513267f7ecb4f0a279e0eae2", func := "partywall/partywalllaw24.CursorTells", spec := "cursorTells", unfollowed := true, recurses := true, apart := false }
def CursorTellsSaid : Prop := cursorTellsRow.holds Try.pinned (OpenSpec.ofChange cursorTellsSpec)

/-- ITS FALSE NEIGHBOUR: 'it returns false'. Refute it at one input. -/
def cursorTellsWrong : ChangeSpec := { name := "cursorTells", fn := fun _ => fun
  | [d1, d2] => { results := [.lit (.bool false)], args := [d1, d2] }
  | _ => none }
def CursorTellsWrongFalsely : Prop := cursorTellsRow.holds Try.pinned (OpenSpec.ofChange cursorTellsWrong)

/-- 'partywalllaw24.CursorBlind': WHATEVER THE INPUT: true; the input reads as it did. -/
def cursorBlindSpec : ChangeSpec := { name := "cursorBlind", fn := fun _ => fun
  | [d1, d2, d3, d4] => { results := [.lit (.bool true)], args := [d1, d2, d3, d4] }
  | _ => none }
def cursorBlindRow : OpenClaim := { program := "ytmdhmjidmiemmaa", sum := "45a8a3bf2ec73b955d44a29b397050538a8ef382513267f7ecb4f0a279e0eae2", func := "partywall/partywalllaw24.CursorBlind", spec := "cursorBlind", unfollowed := true, recurses := true, apart := false }
def CursorBlindSaid : Prop := cursorBlindRow.holds Try.pinned (OpenSpec.ofChange cursorBlindSpec)

/-- ITS FALSE NEIGHBOUR: 'it returns false'. Refute it at one input. -/
def cursorBlindWrong : ChangeSpec := { name := "cursorBlind", fn := fun _ => fun
  | [d1, d2, d3, d4] => { results := [.lit (.bool false)], args := [d1, d2, d3, d4] }
  | _ => none }
def CursorBlindWrongFalsely : Prop := cursorBlindRow.holds Try.pinned (OpenSpec.ofChange cursorBlindWrong)

/-- 'partywalllaw24.CursorMoves': WHATEVER THE INPUT: true; the input reads as it did. -/
def cursorMovesSpec : ChangeSpec := { name := "cursorMoves", fn := fun _ => fun
  | [d1, d2] => { results := [.lit (.bool true)], args := [d1, d2] }
  | _ => none }
def cursorMovesRow : OpenClaim := { program := "ytmdhmjidmiemmaa", sum := "45a8a3bf2ec73b955d44a29b397050538a8ef382513267f7ecb4f0a279e0eae2", func := "partywall/partywalllaw24.CursorMoves", spec := "cursorMoves", unfollowed := true, recurses := true, apart := false }
def CursorMovesSaid : Prop := cursorMovesRow.holds Try.pinned (OpenSpec.ofChange cursorMovesSpec)

/-- ITS FALSE NEIGHBOUR: 'it returns false'. Refute it at one input. -/
def cursorMovesWrong : ChangeSpec := { name := "cursorMoves", fn := fun _ => fun
  | [d1, d2] => { results := [.lit (.bool false)], args := [d1, d2] }
  | _ => none }
def CursorMovesWrongFalsely : Prop := cursorMovesRow.holds Try.pinned (OpenSpec.ofChange cursorMovesWrong)

/-- 'partywalllaw24.CursorTakes': WHATEVER THE INPUT: true; the input reads as it did. -/
def cursorTakesSpec : ChangeSpec := { name := "cursorTakes", fn := fun _ => fun
  | [d1, d2, d3, d4] => { results := [.lit (.bool true)], args := [d1, d2, d3, d4] }
  | _ => none }
def cursorTakesRow : OpenClaim := { program := "ytmdhmjidmiemmaa", sum := "45a8a3bf2ec73b955d44a29b397050538a8ef382513267f7ecb4f0a279e0eae2", func := "partywall/partywalllaw24.CursorTakes", spec := "cursorTakes", unfollowed := true, recurses := true, apart := false }
def CursorTakesSaid : Prop := cursorTakesRow.holds Try.pinned (OpenSpec.ofChange cursorTakesSpec)

/-- ITS FALSE NEIGHBOUR: 'it returns false'. Refute it at one input. -/
def cursorTakesWrong : ChangeSpec := { name := "cursorTakes", fn := fun _ => fun
  | [d1, d2, d3, d4] => { results := [.lit (.bool false)], args := [d1, d2, d3, d4] }
  | _ => none }
def CursorTakesWrongFalsely : Prop := cursorTakesRow.holds Try.pinned (OpenSpec.ofChange cursorTakesWrong)

/-- 'partywalllaw24.CursorKnown': WHATEVER THE INPUT: true; the input reads as it did. -/
def cursorKnownSpec : ChangeSpec := { name := "cursorKnown", fn := fun _ => fun
  | [] => { results := [.lit (.bool true)], args := [] }
  | _ => none }
def cursorKnownRow : OpenClaim := { program := "ytmdhmjidmiemmaa", sum := "45a8a3bf2ec73b955d44a29b397050538a8ef382513267f7ecb4f0a279e0eae2", func := "partywall/partywalllaw24.CursorKnown", spec := "cursorKnown", unfollowed := true, recurses := true, apart := false }
def CursorKnownSaid : Prop := cursorKnownRow.holds Try.pinned (OpenSpec.ofChange cursorKnownSpec)

/-- ITS FALSE NEIGHBOUR: 'it returns false'. Refute it at one input. -/
def cursorKnownWrong : ChangeSpec := { name := "cursorKnown", fn := fun _ => fun
  | [] => { results := [.lit (.bool false)], args := [] }
  | _ => none }
def CursorKnownWrongFalsely : Prop := cursorKnownRow.holds Try.pinned (OpenSpec.ofChange cursorKnownWrong)

/- THE SECOND FORM. 'bulk': how many values and letters a reading holds, each counted each time it is reached (what is shared counts as often as it is met; a slice's spare places count too). A statement '..UptoSaid' is the law's where the arguments, and the package variables that the reading takes, are together of bulk at most 1048576: NARROWER than '..Said'. Prove '..Said' where nothing that the law and all that it calls make is longer than what came in: it says more and counts as full. Else prove '..UptoSaid'. A law counts once. -/
mutual
def uptoBulk {H : Type} : DataW H → Nat
  | .lit (.string bytes) => bytes.length + 1
  | .lit _ => 1
  | .nil => 1
  | .ptr d => uptoBulk d + 1
  | .slice elems spare => uptoBulkAll elems + uptoBulkAll spare + 1
  | .agg parts => uptoBulkAll parts + 1
  | .iface _ d => uptoBulk d + 1
  | .map entries => uptoBulkEntries entries + 1
  | .held _ => 1
def uptoBulkAll {H : Type} : List (DataW H) → Nat
  | [] => 0
  | d :: r => uptoBulk d + uptoBulkAll r
def uptoBulkEntries {H : Type} : List (Lit × DataW H) → Nat
  | [] => 0
  | x :: r => uptoBulkEntry x + uptoBulkEntries r
def uptoBulkEntry {H : Type} : Lit × DataW H → Nat
  | (.string bytes, d) => bytes.length + uptoBulk d + 1
  | (_, d) => uptoBulk d + 1
 end
def uptoSmall : (H : Type) → List (DataW H) → Bool := fun _ ds => decide (uptoBulkAll ds ≤ 1048576)
def OpenSpec.upto (s : _root_.Go.ChangeSpec) : _root_.Go.OpenSpec := { _root_.Go.OpenSpec.ofChange s with cond := some uptoSmall }

/-- 'partywalllaw24.CursorGrows', WHERE WHAT IT READS IS OF BULK AT MOST 1048576: true; the input reads as it did. -/
def cursorGrowsUptoRow : OpenClaim := { program := "ytmdhmjidmiemmaa", sum := "45a8a3bf2ec73b955d44a29b397050538a8ef382513267f7ecb4f0a279e0eae2", func := "partywall/partywalllaw24.CursorGrows", spec := "cursorGrows", unfollowed := true, recurses := true, apart := false, narrowed := true }
def CursorGrowsUptoSaid : Prop := cursorGrowsUptoRow.holds Try.pinned (OpenSpec.upto cursorGrowsSpec)

/-- 'partywalllaw24.CursorTells', WHERE WHAT IT READS IS OF BULK AT MOST 1048576: true; the input reads as it did. -/
def cursorTellsUptoRow : OpenClaim := { program := "ytmdhmjidmiemmaa", sum := "45a8a3bf2ec73b955d44a29b397050538a8ef382513267f7ecb4f0a279e0eae2", func := "partywall/partywalllaw24.CursorTells", spec := "cursorTells", unfollowed := true, recurses := true, apart := false, narrowed := true }
def CursorTellsUptoSaid : Prop := cursorTellsUptoRow.holds Try.pinned (OpenSpec.upto cursorTellsSpec)

/-- 'partywalllaw24.CursorBlind', WHERE WHAT IT READS IS OF BULK AT MOST 1048576: true; the input reads as it did. -/
def cursorBlindUptoRow : OpenClaim := { program := "ytmdhmjidmiemmaa", sum := "45a8a3bf2ec73b955d44a29b397050538a8ef382513267f7ecb4f0a279e0eae2", func := "partywall/partywalllaw24.CursorBlind", spec := "cursorBlind", unfollowed := true, recurses := true, apart := false, narrowed := true }
def CursorBlindUptoSaid : Prop := cursorBlindUptoRow.holds Try.pinned (OpenSpec.upto cursorBlindSpec)

/-- 'partywalllaw24.CursorMoves', WHERE WHAT IT READS IS OF BULK AT MOST 1048576: true; the input reads as it did. -/
def cursorMovesUptoRow : OpenClaim := { program := "ytmdhmjidmiemmaa", sum := "45a8a3bf2ec73b955d44a29b397050538a8ef382513267f7ecb4f0a279e0eae2", func := "partywall/partywalllaw24.CursorMoves", spec := "cursorMoves", unfollowed := true, recurses := true, apart := false, narrowed := true }
def CursorMovesUptoSaid : Prop := cursorMovesUptoRow.holds Try.pinned (OpenSpec.upto cursorMovesSpec)

/-- 'partywalllaw24.CursorTakes', WHERE WHAT IT READS IS OF BULK AT MOST 1048576: true; the input reads as it did. -/
def cursorTakesUptoRow : OpenClaim := { program := "ytmdhmjidmiemmaa", sum := "45a8a3bf2ec73b955d44a29b397050538a8ef382513267f7ecb4f0a279e0eae2", func := "partywall/partywalllaw24.CursorTakes", spec := "cursorTakes", unfollowed := true, recurses := true, apart := false, narrowed := true }
def CursorTakesUptoSaid : Prop := cursorTakesUptoRow.holds Try.pinned (OpenSpec.upto cursorTakesSpec)

/-- 'partywalllaw24.CursorKnown', WHERE WHAT IT READS IS OF BULK AT MOST 1048576: true; the input reads as it did. -/
def cursorKnownUptoRow : OpenClaim := { program := "ytmdhmjidmiemmaa", sum := "45a8a3bf2ec73b955d44a29b397050538a8ef382513267f7ecb4f0a279e0eae2", func := "partywall/partywalllaw24.CursorKnown", spec := "cursorKnown", unfollowed := true, recurses := true, apart := false, narrowed := true }
def CursorKnownUptoSaid : Prop := cursorKnownUptoRow.holds Try.pinned (OpenSpec.upto cursorKnownSpec)

end Rows
end Go.Proofs.Ytmdhmjidmiemmaa
