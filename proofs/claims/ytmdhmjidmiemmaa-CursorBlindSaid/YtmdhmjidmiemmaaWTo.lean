/- Stores: labels and events that are made of numbers, stream.Check. -/
import Derived.Test.YtmdhmjidmiemmaaWCo
import Derived.Test.YtmdhmjidmiemmaaWTi
namespace Go.Proofs.Ytmdhmjidmiemmaa
open Go Go.Vm Rg
set_option linter.unusedSimpArgs false
set_option linter.unusedVariables false
set_option maxRecDepth 10000
def labK (n : Int) : Int := if ((Cf.modI n 1099511627776).tmod 16 == 15) = true then IntKind.u64.wrap (IntKind.u64.wrap (IntKind.i64.wrap ((Cf.modI n 1099511627776).tdiv 16)) * 11400714819323198485)
  else IntKind.u64.wrap (bitsOp .and .i64 ((Cf.modI n 1099511627776).tmod 16) ((IntKind.i64.wrap ((Cf.modI n 1099511627776).tdiv 16)).tmod 16))
def sLabK : Sum := ⟨[i64], fun _ => none, fun
  | [n] => .dat u64 (.I (labK n.int))
  | _ => .und⟩
def cLb : Ctx := ⟨tabT, refsT, [(11, Cf.sMod), (63, Cf.sLabels)], [], keep, mpsT⟩
def vals4 : List D := [.I (-9223372036854775808), .I 9223372036854775807, .I 0, .I 1099511627776]
def valK (K : Int) : Int := if ((IntKind.i64.wrap (K.tdiv 86016)).tmod 9 == 0) = true then (vals4.getD ((IntKind.i64.wrap (K.tdiv 774144)).tmod 4).toNat .Z).int else IntKind.i64.wrap ((IntKind.i64.wrap (K.tdiv 4096)).tmod 21 - 10)
def evK (n : Int) : D := .L [.I (labK ((Cf.modI n 1099511627776).tmod 256)), .I ((IntKind.i64.wrap ((Cf.modI n 1099511627776).tdiv 256)).tmod 4), .I (valK (Cf.modI n 1099511627776))]
def sEvK : Sum := ⟨[i64], fun _ => none, fun
  | [n] => .dat eventS (evK n.int)
  | _ => .und⟩
theorem tabEOK : tabB Try.prog (tabT) = true := by kernel_rfl
theorem evK_evC (n : Int) : evC (evK n) = 0 := by
  have hK := Cf.cfgK_range n
  have hK2 : 0 ≤ Cf.modI n 1099511627776 := hK.1
  have hK3 : Cf.modI n 1099511627776 < 1099511627776 := hK.2
  have h2 : 0 ≤ (Cf.modI n 1099511627776).tdiv 256 := Int.tdiv_nonneg hK2 (by decide)
  have h3 : (Cf.modI n 1099511627776).tdiv 256 ≤ Cf.modI n 1099511627776 := Int.tdiv_le_self _ hK2
  have h4 := Int.tmod_nonneg 4 h2
  have h5 := Int.tmod_lt_of_pos ((Cf.modI n 1099511627776).tdiv 256) (show (0 : Int) < 4 by decide)
  rw [evC, if_neg]
  show ¬ (ltB ((IntKind.i64.wrap ((Cf.modI n 1099511627776).tdiv 256)).tmod 4) 0 || leB 26 ((IntKind.i64.wrap ((Cf.modI n 1099511627776).tdiv 256)).tmod 4)) = true
  rw [wrap_i64 (by omega) (by omega)]
  simp only [Bool.or_eq_true, ltB_true, leB_true]; omega
/-! ### stream.Check of a right list -/
def cntB (n : Int) : Bool := leB 1 n && leB n 1099511627776
def sCnt : Sum := ⟨[u64], fun _ => none, fun
  | [n] => .dat .bool (.B (cntB n.int))
  | _ => .und⟩
def noS (x : D) : Int := ((x.nth 0).nth 1).int
def lbS (x : D) : Int := ((x.nth 0).nth 0).int
structure GoodL (l : List D) : Prop where
  len : l.length ≤ 1000
  each : ∀ i, i < l.length → 0 ≤ ((l.getD i .Z).nth 3).int ∧ ((l.getD i .Z).nth 3).int ≤ 25 ∧ cntB (noS (l.getD i .Z)) = true ∧ cntB (keyO (l.getD i .Z)) = true ∧ ((l.getD i .Z).nth 2).int ≤ 1099511627776
  nos : ∀ i j, i < j → j < l.length → lbS (l.getD i .Z) = lbS (l.getD j .Z) → noS (l.getD i .Z) < noS (l.getD j .Z)
  adj : ∀ i, i + 1 < l.length → keyO (l.getD i .Z) < keyO (l.getD (i + 1) .Z) ∧ ((l.getD i .Z).nth 2).int ≤ ((l.getD (i + 1) .Z).nth 2).int
def sSC : Sum := ⟨[.slice storedS], fun
  | [l] => some (GoodL l.list)
  | _ => none, fun
  | [_] => .tup [.dat i64 (.I 0), .dat i64 (.I 0)]
  | _ => .und⟩
def mpL (l : List D) : Nat → List (D × D)
  | 0 => []
  | i + 1 => mPut (.I (lbS (l.getD i .Z))) (.I (noS (l.getD i .Z))) (mpL l i)
theorem mpL_get {l : List D} {L : Int} : ∀ {i : Nat}, (mGet (D0 u64) L (mpL l i)).int = 0 ∨ ∃ j, j < i ∧ lbS (l.getD j .Z) = L ∧ (mGet (D0 u64) L (mpL l i)).int = noS (l.getD j .Z)
  | 0 => .inl rfl
  | i + 1 => by
    rw [mpL, Cf.mGet_mPut]
    split
    · rename_i h
      exact .inr ⟨i, Nat.lt_succ_self i, h, rfl⟩
    · rcases mpL_get (l := l) (L := L) (i := i) with h | ⟨j, h1, h2, h3⟩
      · exact .inl h
      · exact .inr ⟨j, by omega, h2, h3⟩
def mpsC : List (Nat × MI) := mpsT
theorem mpsCOK : mapsB Try.prog mpsC = true := by kernel_rfl
end Go.Proofs.Ytmdhmjidmiemmaa
