/- Gates: new ones, putting, the example, what the law leans on. -/
import Derived.Test.YtpfpgjkbnjnjnaaWMb
namespace Go.Proofs.Ytpfpgjkbnjnjnaa
open Go Go.Vm Rg
set_option linter.unusedSimpArgs false
set_option linter.unusedVariables false
set_option maxRecDepth 10000
def gN (c : D) : D := if Cf.chE c ≠ 0 then D0 gateS else .L [newT c, Cf.newU c]
def sGN : Sum := ⟨[Cf.configS], fun _ => none, fun
  | [c] => .tup [.dat gateS (gN c), .dat i64 (.I (Cf.chE c))]
  | _ => .und⟩
def cGN : Ctx := ⟨tabM, refsM, [(40, sNewT), (36, Cf.sQNew)], [], keep, mpsM⟩
theorem gn_fun : FunOK cGN 60 Try.f24 sGN := fun c hc _ => by
  refine ⟨fun h1 => ⟨Bears.same (eqSame (if_pos (bneT h1)).symm), Bears.int rfl, trivial⟩, fun h1 => ⟨Bears.same (eqSame (if_neg (by simp [show Cf.chE c = 0 from bneF h1])).symm), Bears.int rfl, trivial⟩⟩
def puE (c g e : D) : Int := if gkE c g ≠ 0 then gkE c g else paE c g e
def puG (c g e : D) : D := if gkE c g ≠ 0 then D0 gateS else paG c g e
def puX (c g e : D) : D := if gkE c g ≠ 0 then D0 storedS else paX c g e
def sPu : Sum := ⟨[Cf.configS, gateS, eventS], fun _ => none, fun
  | [c, g, e] => .tup [.dat gateS (puG c g e), .dat storedS (puX c g e), .dat i64 (.I (puE c g e))]
  | _ => .und⟩
theorem pu_n {c g e : D} (h : gkE c g ≠ 0) : puE c g e = gkE c g ∧ puG c g e = D0 gateS ∧ puX c g e = D0 storedS := ⟨if_pos h, if_pos h, if_pos h⟩
theorem pu_y {c g e : D} (h : gkE c g = 0) : puE c g e = paE c g e ∧ puG c g e = paG c g e ∧ puX c g e = paX c g e := ⟨if_neg (by simp [h]), if_neg (by simp [h]), if_neg (by simp [h])⟩
def cPu : Ctx := ⟨tabM, refsM, [(30, sGk), (32, sPa)], [], keep, mpsM⟩
theorem puA_fun : FunOK cPu 100 Try.f21 sPu := fun c hc g hg e he _ => by
  exact ⟨fun h1 => three (pu_n (bneT h1)), fun h1 => three (pu_y (bneF h1))⟩
def sMayA : Sum := ⟨[Cf.configS, gateS, u64], fun _ => none, fun
  | [c, g, l] => .dat i64 (.I (puE c g (.L [.I l.int, .I 0, .I 0])))
  | _ => .und⟩
def cMy : Ctx := ⟨tabM, refsM, [(21, sPu)], [], keep, mpsM⟩
theorem may_fun : FunOK cMy 100 Try.f16 sMayA := fun c hc g hg l hl _ => by
  exact Bears.int rfl
def shC : List D := [.L [.I 0, .I 1, .I 1], .L [.I 2, .I 2, .I 2]]
def shR : List D := [.L [.I 1, .I 2, .I 0, .B true, .I 0, .I 0, .I 9]]
def shA (i : Nat) : D := .L [.L shC, exR i, .L shR, .I 1]
def sSh : Sum := ⟨[], fun _ => none, fun _ => .dat Cf.configS (shA 6)⟩
theorem sh_fun : FunOK c0M 60 Try.f11 sSh := fun _ => by
  refine ⟨{ i : Nat // i ≤ 6 }, 4, fun i => ([(2, .dat i64 (.I i.1)), (1, .ptr 3 Cf.configS [] Cf.configS), (0, .ptr 0 Cf.configS [] Cf.configS)], [(3, .box Cf.configS (.st [.slice Cf.classS, .arr 6 Cf.tenS, .slice Cf.ruleS, u64] [.own 1 Cf.classS, .dat (.arr 6 Cf.tenS) (exR i.1), .own 2 Cf.ruleS, .dat u64 (.I 1)])), (2, .grow Cf.ruleS shR), (1, .grow Cf.classS shC), (0, .box Cf.configS (.st [.slice Cf.classS, .arr 6 Cf.tenS, .slice Cf.ruleS, u64] [.cst (Value.slice none 0 0), .dat (.arr 6 Cf.tenS) (D0 (.arr 6 Cf.tenS)), .cst (Value.slice none 0 0), .dat u64 (D0 u64)]))]), fun i => 6 - i.1,
    ⟨0, by omega⟩, ⟨[], rfl, ⟨rfl, rfl, rfl, trivial⟩, ⟨rfl, rfl, rfl, rfl, trivial⟩⟩, ?_⟩
  intro x
  obtain ⟨i, hi⟩ := x
  refine ⟨fun h3 => ?_, fun h3 => ?_⟩
  · have hk : i < 6 := by have h3 : ltB (i : Int) 6 = true := h3; simp only [ltB_true] at h3; omega
    exact ⟨(show 0 ≤ (i : Int) ∧ (i : Int) < 6 by omega), ⟨i + 1, hk⟩, ⟨[], rfl, ⟨slot (i64_1 (n := i) (by omega)), rfl, rfl, trivial⟩, ⟨rfl, rfl, rfl, rfl, trivial⟩⟩, stepLt hk⟩
  · have he : i = 6 := by have h3 : ltB (i : Int) 6 = false := h3; simp only [ltB_false] at h3; omega
    subst he
    exact Bears.of_eq rfl
def eD : D := .L [.I 2, .I 0, .I 5]
def sE : Sum := ⟨[], fun _ => none, fun _ => .dat eventS eD⟩
theorem e_fun : FunOK c0M 60 Try.f8 sE := fun _ => by
  exact Bears.same (eqSame rfl)
def psR (g s : D) : List D → D × D × Int
  | [] => (g, s, 0)
  | e :: r => if puE (shA 6) g e ≠ 0 then (g, D0 storedS, puE (shA 6) g e) else psR (puG (shA 6) g e) (puX (shA 6) g e) r
def psA (l : D) : D × D × Int := psR (gN (shA 6)) (D0 storedS) l.list
def sPs : Sum := ⟨[.slice eventS], fun _ => none, fun
  | [l] => .tup [.dat gateS (psA l).1, .dat storedS (psA l).2.1, .dat i64 (.I (psA l).2.2)]
  | _ => .und⟩
def tabN : List (Nat × Sh) := (87, .slice eventS) :: tabM
theorem tabNOK : tabB Try.prog tabN = true := by kernel_rfl
theorem ctxN {l : List (Nat × Sum)} (h : SumsOK Try.prog l) : CtxOK Try.prog ⟨tabN, refsM, l, [], keep, mpsM⟩ := CtxOK.of tabNOK refsMOK h FunsOK.nil mpsMOK
def cPs : Ctx := ⟨tabN, refsM, [(11, sSh), (24, sGN), (21, sPu)], [], keep, mpsM⟩
theorem shA_ok : Cf.chE (shA 6) = 0 := by kernel_rfl
theorem drop_cons {l : List D} {i : Nat} (h : i < l.length) : l.drop i = l.getD i .Z :: l.drop (i + 1) := by
  rw [List.drop_eq_getElem_cons h, List.getD_eq_getElem?_getD, List.getElem?_eq_getElem h]; rfl
structure PsX (l : D) where
  i : Nat
  g : D
  s : D
  hi : i ≤ l.list.length
  he : psR g s (l.list.drop i) = psA l
theorem ps_fun : FunOK cPs 100 Try.f7 sPs := fun l hl _ => by
  refine ⟨PsX l, 4, fun x => ([(8, .dat i64 (.I x.i)), (7, .ptr 3 storedS [] storedS), (6, .dat i64 (.I 0)), (5, .ptr 2 gateS [] gateS), (4, .dat i64 (.I 0)), (3, .ptr 1 storedS [] storedS), (2, .ptr 0 gateS [] gateS), (0, .dat (.slice eventS) l)], [(3, .box storedS (.dat storedS x.s)), (2, .box gateS (.dat gateS x.g)), (1, .box storedS (.dat storedS (D0 storedS))), (0, .box gateS (.st [storeS, Cf.ratesS] [.dat storeS (D0 storeS), .dat Cf.ratesS (D0 Cf.ratesS)]))]), fun x => l.list.length - x.i,
    ⟨0, gN (shA 6), D0 storedS, Nat.zero_le _, rfl⟩, ⟨[], rfl, ⟨rfl, rfl, slot shA_ok, rfl, rfl, rfl, rfl, rfl, trivial⟩, ⟨rfl, rfl, rfl, rfl, trivial⟩⟩, ?_⟩
  intro x
  obtain ⟨i, g, s, hi, he⟩ := x
  have hl0 : l.list.length ≤ 9223372036854775807 := hl.1
  have bad : i < l.list.length → (puE (shA 6) g (l.list.getD i .Z) != 0) = true → psA l = (g, D0 storedS, puE (shA 6) g (l.list.getD i .Z)) := fun h1 h2 => by
    rw [← he, drop_cons h1, psR, if_pos (bneT h2)]
  have good : i < l.list.length → (puE (shA 6) g (l.list.getD i .Z) != 0) = false → psR (puG (shA 6) g (l.list.getD i .Z)) (puX (shA 6) g (l.list.getD i .Z)) (l.list.drop (i + 1)) = psA l := fun h1 h2 => by
    rw [← he, drop_cons h1, psR, if_neg (fun h => h (bneF h2))]
  have fin : i = l.list.length → psA l = (g, s, 0) := fun h => by
    rw [← he, h, List.drop_length]; rfl
  refine ⟨fun h1 => ⟨ix (ltN h1), by kernel_rfl, fun h2 => ?_, fun h2 => ⟨by kernel_rfl, ?_⟩⟩, fun h1 => ⟨by kernel_rfl, ?_⟩⟩
  · have e := bad (ltN h1) h2
    exact ⟨Bears.same (eqSame (congrArg Prod.fst e).symm), Bears.same (eqSame (congrArg (fun x => x.2.1) e).symm), Bears.int (congrArg (fun x => x.2.2) e).symm, trivial⟩
  · have hlt : i < l.list.length := ltN h1
    exact ⟨⟨i + 1, _, _, hlt, good hlt h2⟩, ⟨[], rfl, ⟨slot (i64_1 (n := i) (by omega)), rfl, rfl, rfl, rfl, rfl, rfl, rfl, trivial⟩, ⟨rfl, rfl, rfl, rfl, trivial⟩⟩, stepLt hlt⟩
  · have e := fin (geN hi h1)
    exact ⟨Bears.same (eqSame (congrArg Prod.fst e).symm), Bears.same (eqSame (congrArg (fun x => x.2.1) e).symm), Bears.int (congrArg (fun x => x.2.2) e).symm, trivial⟩
/-! ### The example awake -/
def cAk : Ctx := ⟨tabN, refsM, [(11, sSh), (8, sE), (7, sPs), (12, sFd), (16, sMayA)], [], keep, mpsM⟩
theorem awk_fun : FunOK cAk 100 Try.f18 sTrueT := fun _ => by
  exact ⟨by kernel_rfl, by kernel_rfl, Bears.bool (by kernel_rfl)⟩
/-! ### What the law leans on -/
def sOwn12 : Sum := ⟨[storeS], fun
  | [s] => some (nG s ≤ 12)
  | _ => none, fun
  | [s] => .dat storeS s
  | _ => .und⟩
def sOwnG : Sum := ⟨[gateS], fun
  | [g] => some (nG (gS g) ≤ 12 ∧ Cf.nU (gR g) ≤ 20)
  | _ => none, fun
  | [g] => .dat gateS g
  | _ => .und⟩
def cOg : Ctx := ⟨tabM, refsM, [], [], keep, mpsM⟩
def lightM (c g : D) : Bool := lightC c && leB (nG (gS g)) 12 && leB (Cf.nU (gR g)) 20
def sLightM : Sum := ⟨[Cf.configS, gateS], fun _ => none, fun
  | [c, g] => .dat .bool (.B (lightM c g))
  | _ => .und⟩
def cLm : Ctx := ⟨tabM, refsM, [], [], keep, mpsM⟩
def sameGt (a b : D) : Bool := sameT (gS a) (gS b) && Cf.sameI (Cf.rl (gR a)) (Cf.rl (gR b))
def sSameG : Sum := ⟨[gateS, gateS], fun
  | [a, _] => some (nG (gS a) ≤ 12)
  | _ => none, fun
  | [a, b] => .dat .bool (.B (sameGt a b))
  | _ => .und⟩
def cSg : Ctx := ⟨tabM, refsM, [(17, Cf.sSameI)], [], keep, mpsM⟩
/-! ### The law -/
def sLawR : Sum := ⟨[Cf.configS, gateS, i64, idS, u64], fun _ => none, fun _ => .dat .bool (.B true)⟩
theorem paG_len {c g e : D} (h : nG (gS g) ≤ 12) : nG (gS (paG c g e)) ≤ 12 := by
  rw [paG]
  split
  · exact Nat.zero_le _
  · exact Nat.le_trans (putT_len _ _) h
theorem rlG_len {c g d : D} {n : Int} (h : nG (gS g) ≤ 12) : nG (gS (rlG c g n d)) ≤ 12 := by
  rw [rlG]
  split
  · exact Nat.zero_le _
  · exact paG_len h
theorem sameGt_rfl (g : D) : sameGt g g = true := by
  rw [sameGt, sameT_rfl, Cf.sameI_rfl]; rfl
theorem eqEv (d : D) : eqD eventS d d = true := by simp [eqD, eqDs]
theorem eqRec (d : D) : eqD recS d d = true := by simp [eqD, eqDs]
theorem neSelf (a : Int) : (a != a) = false := by simp
end Go.Proofs.Ytpfpgjkbnjnjnaa
