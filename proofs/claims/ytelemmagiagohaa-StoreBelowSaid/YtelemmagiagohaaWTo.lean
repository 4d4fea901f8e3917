/- Stores: labels and events that are made of numbers, stream.Check. -/
import Derived.Test.YtelemmagiagohaaWCo
import Derived.Test.YtelemmagiagohaaWTi
namespace Go.Proofs.Ytelemmagiagohaa
open Go Go.Vm Rg
set_option linter.unusedSimpArgs false
set_option linter.unusedVariables false
set_option maxRecDepth 10000
def labK (n : Int) : Int := if ((Cf.modI n 1099511627776).tmod 16 == 15) = true then IntKind.u64.wrap (IntKind.u64.wrap (IntKind.i64.wrap ((Cf.modI n 1099511627776).tdiv 16)) * 11400714819323198485)
  else IntKind.u64.wrap (bitsOp .and .i64 ((Cf.modI n 1099511627776).tmod 16) ((IntKind.i64.wrap ((Cf.modI n 1099511627776).tdiv 16)).tmod 16))
def sLabK : Sum := ⟨[i64], fun _ => none, fun
  | [n] => .dat u64 (.I (labK n.int))
  | _ => .und⟩
def cLb : Ctx := ⟨tabT, refsT, [(25, Cf.sMod), (63, Cf.sLabels)], [], keep, mpsT⟩
theorem labK_fun : FunOK cLb 60 Try.f87 sLabK := fun n hn _ => by
  refine ⟨ne0 rfl, fun h1 => ⟨ne0 rfl, Bears.int (if_pos h1).symm⟩, fun h1 => ⟨ne0 rfl, ne0 rfl, ne0 rfl, Bears.int (if_neg ?_).symm⟩⟩
  exact fun h => by rw [show ((Cf.modI n.int 1099511627776).tmod 16 == 15) = false from h1] at h; cases h
def vals4 : List D := [.I (-9223372036854775808), .I 9223372036854775807, .I 0, .I 1099511627776]
def valK (K : Int) : Int := if ((IntKind.i64.wrap (K.tdiv 86016)).tmod 9 == 0) = true then (vals4.getD ((IntKind.i64.wrap (K.tdiv 774144)).tmod 4).toNat .Z).int else IntKind.i64.wrap ((IntKind.i64.wrap (K.tdiv 4096)).tmod 21 - 10)
def evK (n : Int) : D := .L [.I (labK ((Cf.modI n 1099511627776).tmod 256)), .I ((IntKind.i64.wrap ((Cf.modI n 1099511627776).tdiv 256)).tmod 4), .I (valK (Cf.modI n 1099511627776))]
def sEvK : Sum := ⟨[i64], fun _ => none, fun
  | [n] => .dat eventS (evK n.int)
  | _ => .und⟩
def cEv : Ctx := ⟨(134, .slice i64) :: tabT, refsT, [(25, Cf.sMod), (87, sLabK)], [], keep, mpsT⟩
theorem evK_fun : FunOK cEv 60 Try.f64 sEvK := fun n hn _ => by
  refine ⟨ne0 rfl, ne0 rfl, ne0 rfl, ne0 rfl, fun h1 => ⟨ne0 rfl, ne0 rfl, ?_, ne0 rfl, ne0 rfl, ne0 rfl, Bears.of_eq ?_⟩, fun h1 => ⟨ne0 rfl, ne0 rfl, ne0 rfl, Bears.of_eq ?_⟩⟩
  · have hK := Cf.cfgK_range n.int
    have hK2 : 0 ≤ Cf.modI n.int 1099511627776 := hK.1
    have hK3 : Cf.modI n.int 1099511627776 < 1099511627776 := hK.2
    have h2 : 0 ≤ (Cf.modI n.int 1099511627776).tdiv 774144 := Int.tdiv_nonneg hK2 (by decide)
    have h3 : (Cf.modI n.int 1099511627776).tdiv 774144 ≤ Cf.modI n.int 1099511627776 := Int.tdiv_le_self _ hK2
    show 0 ≤ (IntKind.i64.wrap ((Cf.modI n.int 1099511627776).tdiv 774144)).tmod 4 ∧ (IntKind.i64.wrap ((Cf.modI n.int 1099511627776).tdiv 774144)).tmod 4 < ((4 : Nat) : Int)
    rw [wrap_i64 (by omega) (by omega)]
    have h4 := Int.tmod_nonneg 4 h2
    have h5 := Int.tmod_lt_of_pos ((Cf.modI n.int 1099511627776).tdiv 774144) (show (0 : Int) < 4 by decide)
    omega
  · have : valK (Cf.modI n.int 1099511627776) = (vals4.getD ((IntKind.i64.wrap ((Cf.modI n.int 1099511627776).tdiv 774144)).tmod 4).toNat .Z).int := if_pos h1
    show _ = D.L [_, _, .I (valK (Cf.modI n.int 1099511627776))]
    rw [this]; rfl
  · have : valK (Cf.modI n.int 1099511627776) = IntKind.i64.wrap ((IntKind.i64.wrap ((Cf.modI n.int 1099511627776).tdiv 4096)).tmod 21 - 10) := if_neg (by rw [show ((IntKind.i64.wrap ((Cf.modI n.int 1099511627776).tdiv 86016)).tmod 9 == 0) = false from h1]; decide)
    show _ = D.L [_, _, .I (valK (Cf.modI n.int 1099511627776))]
    rw [this]; rfl
theorem labK_ok : SumOK Try.prog 87 sLabK := sumOK_of_vc (c := cLb) (ctxT (.cons Cf.mod_ok (.cons Cf.labels5_ok .nil))) mixed Try.func87 rfl (by decide) @labK_fun
theorem tabEOK : tabB Try.prog ((134, .slice i64) :: tabT) = true := by kernel_rfl
theorem evK_ok : SumOK Try.prog 64 sEvK := sumOK_of_vc (c := cEv) (CtxOK.of tabEOK refsTOK (.cons Cf.mod_ok (.cons labK_ok .nil)) FunsOK.nil mpsTOK) mixed Try.func64 rfl (by decide) @evK_fun
theorem evK_evC (n : Int) : evC (evK n) = 0 := by
  have hK := Cf.cfgK_range n
  have hK2 : 0 ≤ Cf.modI n 1099511627776 := hK.1
  have hK3 : Cf.modI n 1099511627776 < 1099511627776 := hK.2
  have h2 : 0 ≤ (Cf.modI n 1099511627776).tdiv 256 := Int.tdiv_nonneg hK2 (by decide)
  have h3 : (Cf.modI n 1099511627776).tdiv 256 ≤ Cf.modI n 1099511627776 := Int.tdiv_le_self _ hK2
  have h4 := Int.tmod_nonneg 4 h2
  have h5 := Int.tmod_lt_of_pos ((Cf.modI n 1099511627776).tdiv 256) (show (0 : Int) < 4 by decide)
  rw [evC, if_neg]
  show ¬ (ltB ((IntKind.i64.wrap ((Cf.modI n 1099511627776).tdiv 256)).tmod 4) 0 || leB 26 ((IntKind.i64.wrap ((Cf.modI n 1099511627776).tdiv 256)).tmod 4)) = true
  rw [wrap_i64 (by omega) (by omega)]
  simp only [Bool.or_eq_true, ltB_true, leB_true]; omega
/-! ### stream.Check of a right list -/
def cntB (n : Int) : Bool := leB 1 n && leB n 1099511627776
def sCnt : Sum := ⟨[u64], fun _ => none, fun
  | [n] => .dat .bool (.B (cntB n.int))
  | _ => .und⟩
theorem cnt_fun : FunOK c0T 60 Try.f70 sCnt := fun n hn _ => Bears.rfl
theorem cnt_ok : SumOK Try.prog 70 sCnt := sumOK_of_vc (c := c0T) (ctxT .nil) mixed Try.func70 rfl (by decide) @cnt_fun
def noS (x : D) : Int := ((x.nth 0).nth 1).int
def lbS (x : D) : Int := ((x.nth 0).nth 0).int
structure GoodL (l : List D) : Prop where
  len : l.length ≤ 1000
  each : ∀ i, i < l.length → 0 ≤ ((l.getD i .Z).nth 3).int ∧ ((l.getD i .Z).nth 3).int ≤ 25 ∧ cntB (noS (l.getD i .Z)) = true ∧ cntB (keyO (l.getD i .Z)) = true ∧ ((l.getD i .Z).nth 2).int ≤ 1099511627776
  nos : ∀ i j, i < j → j < l.length → lbS (l.getD i .Z) = lbS (l.getD j .Z) → noS (l.getD i .Z) < noS (l.getD j .Z)
  adj : ∀ i, i + 1 < l.length → keyO (l.getD i .Z) < keyO (l.getD (i + 1) .Z) ∧ ((l.getD i .Z).nth 2).int ≤ ((l.getD (i + 1) .Z).nth 2).int
def sSC : Sum := ⟨[.slice storedS], fun
  | [l] => some (GoodL l.list)
  | _ => none, fun
  | [_] => .tup [.dat i64 (.I 0), .dat i64 (.I 0)]
  | _ => .und⟩
def mpL (l : List D) : Nat → List (D × D)
  | 0 => []
  | i + 1 => mPut (.I (lbS (l.getD i .Z))) (.I (noS (l.getD i .Z))) (mpL l i)
theorem mpL_get {l : List D} {L : Int} : ∀ {i : Nat}, (mGet (D0 u64) L (mpL l i)).int = 0 ∨ ∃ j, j < i ∧ lbS (l.getD j .Z) = L ∧ (mGet (D0 u64) L (mpL l i)).int = noS (l.getD j .Z)
  | 0 => .inl rfl
  | i + 1 => by
    rw [mpL, Cf.mGet_mPut]
    split
    · rename_i h
      exact .inr ⟨i, Nat.lt_succ_self i, h, rfl⟩
    · rcases mpL_get (l := l) (L := L) (i := i) with h | ⟨j, h1, h2, h3⟩
      · exact .inl h
      · exact .inr ⟨j, by omega, h2, h3⟩
def mpsC : List (Nat × MI) := (113, .map u64 u64) :: mpsT
def cSC : Ctx := ⟨tabT, refsT, [(70, sCnt)], [], keep, mpsC⟩
theorem sc_fun : FunOK cSC 100 Try.f28 sSC := fun l hl h => by
  replace h : GoodL l.list := h
  have hlen := h.len
  refine ⟨fun h1 => ?_, fun h1 => ?_⟩
  · exfalso
    replace h1 : ltB 1000 (l.list.length : Int) = true := h1
    simp only [ltB_true] at h1; omega
  clear h1
  refine ⟨{ i : Nat // i ≤ l.list.length }, 1, fun i => ([(13, .dat i64 (.I i.1)), (12, .dat i64 (.I l.list.length)), (11, .dat (.slice storedS) l), (4, .mp 0 u64 u64), (0, .dat (.slice storedS) l)], [(0, .map u64 u64 (mpL l.list i.1))]), fun i => l.list.length - i.1,
    ⟨0, by omega⟩, ⟨[], rfl, ⟨rfl, rfl, rfl, rfl, rfl, trivial⟩, ⟨rfl, trivial⟩⟩, ?_⟩
  intro x
  obtain ⟨i, hi⟩ := x
  refine ⟨fun h1 => ?_, fun h1 => ⟨Bears.int rfl, Bears.int rfl, trivial⟩⟩
  have hk : i < l.list.length := ltN h1
  clear h1
  have he := h.each i hk
  have hw : ltB 0 (i : Int) = true → 0 ≤ IntKind.i64.wrap ((i : Int) - 1) ∧ IntKind.i64.wrap ((i : Int) - 1) < (l.list.length : Int) ∧ (IntKind.i64.wrap ((i : Int) - 1)).toNat = i - 1 ∧ 0 < i := fun hp => by
    simp only [ltB_true] at hp
    rw [wrap_i64 (by omega) (by omega)]; omega
  refine ⟨ix hk, fun h1 => absurd h1 ?_, fun h1 => ⟨fun h2 => ⟨(hw h2.1).1, (hw h2.1).2.1⟩, fun h2 => ⟨(hw h2.2.1).1, (hw h2.2.1).2.1⟩, by kernel_rfl, fun h2 => absurd h2 ?_, fun h2 => ⟨⟨i + 1, hk⟩, ⟨[], rfl, ⟨slot (i64_1 (n := i) (by omega)), rfl, rfl, rfl, rfl, trivial⟩, ⟨rfl, trivial⟩⟩, stepLt hk⟩⟩⟩
  · show ¬ (ltB ((l.list.getD i .Z).nth 3).int 0 || ltB 25 ((l.list.getD i .Z).nth 3).int || !cntB (noS (l.list.getD i .Z)) || !cntB (keyO (l.list.getD i .Z)) || ltB 1099511627776 ((l.list.getD i .Z).nth 2).int) = true
    rw [he.2.2.1, he.2.2.2.1]
    simp only [Bool.or_eq_true, ltB_true, Bool.not_true, Bool.false_eq_true, or_false]; omega
  · show ¬ (leB (noS (l.list.getD i .Z)) (mGet (D0 u64) (lbS (l.list.getD i .Z)) (mpL l.list i)).int || ltB 0 (i : Int) && (leB (keyO (l.list.getD i .Z)) (keyO (l.list.getD (IntKind.i64.wrap ((i : Int) - 1)).toNat .Z)) || ltB ((l.list.getD i .Z).nth 2).int ((l.list.getD (IntKind.i64.wrap ((i : Int) - 1)).toNat .Z).nth 2).int)) = true
    have hno : 1 ≤ noS (l.list.getD i .Z) := by
      have := he.2.2.1
      simp only [cntB, Bool.and_eq_true, leB_true] at this; omega
    have hg : (mGet (D0 u64) (lbS (l.list.getD i .Z)) (mpL l.list i)).int < noS (l.list.getD i .Z) := by
      rcases mpL_get (l := l.list) (L := lbS (l.list.getD i .Z)) (i := i) with h3 | ⟨j, h3, h4, h5⟩
      · rw [h3]; omega
      · rw [h5]; exact h.nos j i h3 hk h4
    rw [Bool.or_eq_true, Bool.and_eq_true, Bool.or_eq_true]
    rintro (h3 | ⟨h3, h4⟩)
    · simp only [leB_true] at h3; omega
    · obtain ⟨_, _, h5, h6⟩ := hw h3
      rw [h5] at h4
      have h7 := h.adj (i - 1) (by omega)
      rw [show i - 1 + 1 = i by omega] at h7
      simp only [leB_true, ltB_true] at h4
      omega
theorem mpsCOK : mapsB Try.prog mpsC = true := by kernel_rfl
theorem sc_ok : SumOK Try.prog 28 sSC := sumOK_of_vc (c := cSC) (CtxOK.of tabTOK refsTOK (.cons cnt_ok .nil) FunsOK.nil mpsCOK) mixed Try.func28 rfl (by decide) @sc_fun
end Go.Proofs.Ytelemmagiagohaa
