/- Gates: taking bytes in, ticks; the reference's New, May, Put; 'AdmitPuts'. -/
import Derived.Test.YtpfpgjkbnjnjnaaWMf
namespace Go.Proofs.Ytpfpgjkbnjnjnaa
open Go Go.Vm Rg
set_option linter.unusedSimpArgs false
set_option linter.unusedVariables false
set_option maxRecDepth 10000
def cGNR : Ctx := ⟨tabM, refsM, [], [], keep, mpsM⟩
/-! ### Bytes -/
def igE (c g : D) (s : ByteArray) : Int := if gkE c g ≠ 0 then gkE c g else if prE s ≠ 0 then prE s else paE c g (prV s)
def igF (c g : D) (s : ByteArray) : Int := if gkE c g ≠ 0 then 0 else if prE s ≠ 0 then prF s else 0
def igG (c g : D) (s : ByteArray) : D := if gkE c g ≠ 0 then D0 gateS else if prE s ≠ 0 then D0 gateS else paG c g (prV s)
def igX (c g : D) (s : ByteArray) : D := if gkE c g ≠ 0 then D0 storedS else if prE s ≠ 0 then D0 storedS else paX c g (prV s)
def sIg : Sum := ⟨[Cf.configS, gateS, .str], fun _ => none, fun
  | [c, g, s] => .tup [.dat gateS (igG c g s.str), .dat storedS (igX c g s.str), .dat faultS (.L [.I (igE c g s.str), .I (igF c g s.str)])]
  | _ => .und⟩
theorem threeF {G X : D} {E F : Int} {G' X' : D} {E' F' : Int} (h : E' = E ∧ F' = F ∧ G' = G ∧ X' = X) : Bears gateS G G' ∧ Bears storedS X X' ∧ Bears faultS (.L [.I E, .I F]) (.L [.I E', .I F']) ∧ True :=
  ⟨Bears.same (eqSame h.2.2.1.symm), Bears.same (eqSame h.2.2.2.symm), Bears.same ⟨h.1.symm, h.2.1.symm, trivial⟩, trivial⟩
theorem ig_1 {c g : D} {s : ByteArray} (h : gkE c g ≠ 0) : igE c g s = gkE c g ∧ igF c g s = 0 ∧ igG c g s = D0 gateS ∧ igX c g s = D0 storedS := ⟨if_pos h, if_pos h, if_pos h, if_pos h⟩
theorem ig_2 {c g : D} {s : ByteArray} (h : gkE c g = 0) (h2 : prE s ≠ 0) : igE c g s = prE s ∧ igF c g s = prF s ∧ igG c g s = D0 gateS ∧ igX c g s = D0 storedS :=
  ⟨(if_neg fun k => k h).trans (if_pos h2), (if_neg fun k => k h).trans (if_pos h2), (if_neg fun k => k h).trans (if_pos h2), (if_neg fun k => k h).trans (if_pos h2)⟩
theorem ig_0 {c g : D} {s : ByteArray} (h : gkE c g = 0) (h2 : prE s = 0) : igE c g s = paE c g (prV s) ∧ igF c g s = 0 ∧ igG c g s = paG c g (prV s) ∧ igX c g s = paX c g (prV s) :=
  ⟨(if_neg fun k => k h).trans (if_neg fun k => k h2), (if_neg fun k => k h).trans (if_neg fun k => k h2), (if_neg fun k => k h).trans (if_neg fun k => k h2), (if_neg fun k => k h).trans (if_neg fun k => k h2)⟩
def cIg : Ctx := ⟨tabW, refsM, [(30, sGk), (31, sPr), (32, sPa)], [], keep, mpsM⟩
theorem ig_fun : FunOK cIg 100 Try.f10 sIg := fun c hc g hg s hs _ => by
  exact ⟨fun h1 => threeF (ig_1 (bneT h1)), fun h1 => ⟨fun h2 => ⟨by kernel_rfl, threeF (ig_2 (bneF h1) (bneT h2))⟩, fun h2 => ⟨by kernel_rfl, threeF (ig_0 (bneF h1) (bneF h2))⟩⟩⟩
def cIgR : Ctx := ⟨tabW, refsM, [], [], keep, mpsM⟩
/-! ### Ticks -/
def tkE (c g : D) : Int := if gkE c g ≠ 0 then gkE c g else tickE (gS g)
def tkG (c g : D) : D := if tkE c g ≠ 0 then D0 gateS else .L [tickT (gS g), Cf.newU c]
def tkN (c g : D) : Int := if tkE c g ≠ 0 then 0 else tickN (gS g)
def sTkA : Sum := ⟨[Cf.configS, gateS], fun _ => none, fun
  | [c, g] => .tup [.dat gateS (tkG c g), .dat i64 (.I (tkN c g)), .dat i64 (.I (tkE c g))]
  | _ => .und⟩
theorem threeT {G : D} {N E : Int} {G' : D} {N' E' : Int} (h : E' = E ∧ G' = G ∧ N' = N) : Bears gateS G G' ∧ Bears i64 (.I N) (.I N') ∧ Bears i64 (.I E) (.I E') ∧ True :=
  ⟨Bears.same (eqSame h.2.1.symm), Bears.int h.2.2.symm, Bears.int h.1.symm, trivial⟩
theorem tk_1 {c g : D} (h : gkE c g ≠ 0) : tkE c g = gkE c g ∧ tkG c g = D0 gateS ∧ tkN c g = 0 := by
  have e : tkE c g = gkE c g := if_pos h
  exact ⟨e, if_pos (by rw [e]; exact h), if_pos (by rw [e]; exact h)⟩
theorem tk_2 {c g : D} (h : gkE c g = 0) (h2 : tickE (gS g) ≠ 0) : tkE c g = tickE (gS g) ∧ tkG c g = D0 gateS ∧ tkN c g = 0 := by
  have e : tkE c g = tickE (gS g) := if_neg fun k => k h
  exact ⟨e, if_pos (by rw [e]; exact h2), if_pos (by rw [e]; exact h2)⟩
theorem tk_0 {c g : D} (h : gkE c g = 0) (h2 : tickE (gS g) = 0) : tkE c g = 0 ∧ tkG c g = .L [tickT (gS g), Cf.newU c] ∧ tkN c g = tickN (gS g) := by
  have e : tkE c g = 0 := (if_neg fun k => k h).trans h2
  exact ⟨e, if_neg fun k => k e, if_neg fun k => k e⟩
def cTkA : Ctx := ⟨tabM, refsM, [(30, sGk), (35, sTick), (36, Cf.sQNew)], [], keep, mpsM⟩
theorem tk_fun : FunOK cTkA 100 Try.f14 sTkA := fun c hc g hg _ => by
  refine ⟨fun h1 => threeT (tk_1 (bneT h1)), fun h1 => ⟨fun h2 => threeT (tk_2 (bneF h1) (bneT h2)), fun h2 => threeT ?_⟩⟩
  have h := tk_0 (bneF h1) (bneF h2)
  exact ⟨h.1.trans (gk_ok (bneF h1)).1.symm, h.2⟩
def cTkAR : Ctx := ⟨tabM, refsM, [], [], keep, mpsM⟩
/-! ### The law -/
def sLawP : Sum := ⟨[Cf.configS, gateS, eventS, .str], fun _ => none, fun _ => .dat .bool (.B true)⟩
theorem puG_len {c g e : D} (h : nG (gS g) ≤ 12) : nG (gS (puG c g e)) ≤ 12 := by
  rw [puG]
  split
  · exact Nat.zero_le _
  · exact paG_len h
theorem igG_len {c g : D} {s : ByteArray} (h : nG (gS g) ≤ 12) : nG (gS (igG c g s)) ≤ 12 := by
  rw [igG]
  split
  · exact Nat.zero_le _
  split
  · exact Nat.zero_le _
  · exact paG_len h
theorem gN_len (c : D) : nG (gS (gN c)) ≤ 12 := by
  rw [gN]
  split
  · exact Nat.zero_le _
  · exact Nat.le_trans (newT_len c) (by decide)
theorem tkG_len {c g : D} (h : nG (gS g) ≤ 12) : nG (gS (tkG c g)) ≤ 12 := by
  rw [tkG]
  split
  · exact Nat.zero_le _
  · exact Nat.le_trans (tickT_len _) h
theorem eqFa (d : D) : eqD faultS d d = true := by simp [eqD, eqDs]
/-! ### The summaries -/
theorem numW_sum : SumOK Try.prog 90 sNumW := sumOK_of_vc (c := c0W) (ctxW .nil) mixed Try.func90 rfl (by decide) @numW_fun
theorem cUi_ok : CtxOK Try.prog cUi := CtxOK.of tabWOK refsMOK (.cons numW_sum .nil) (.cons rfl rfl (by decide) (.cons rfl rfl (by decide) (.cons rfl rfl (by decide) (.cons rfl rfl (by decide) (.cons rfl rfl (by decide) .nil))))) mpsMOK
theorem ui_sum : SumOK Try.prog 66 sUi := sumOK_of_vc cUi_ok mixed Try.func66 rfl (by decide) @ui_fun
theorem fa_sum : SumOK Try.prog 46 sFa := sumOK_of_vc cUi_ok mixed Try.func46 rfl (by decide) @fa_fun
theorem en_sum : SumOK Try.prog 47 sEn := sumOK_of_vc cUi_ok mixed Try.func47 rfl (by decide) @en_fun
theorem rd_sum : SumOK Try.prog 44 sRd := sumOK_of_vc (c := c0W) (ctxW .nil) mixed Try.func44 rfl (by decide) @rd_fun
theorem pr_sum : SumOK Try.prog 31 sPr := sumOK_of_vc (c := cPr) (CtxOK.of tabWOK refsMOK (.cons rd_sum (.cons ui_sum (.cons fa_sum (.cons en_sum (.cons evC_ok .nil))))) (.cons rfl rfl (by decide) .nil) mpsMOK) mixed Try.func31 rfl (by decide) @pr_fun
theorem ig_sum : SumOK Try.prog 10 sIg := sumOK_of_vc (c := cIg) (ctxW (.cons gk_sum (.cons pr_sum (.cons pa_sum .nil)))) mixed Try.func10 rfl (by decide) @ig_fun
theorem tk_sum : SumOK Try.prog 14 sTkA := sumOK_of_vc (c := cTkA) (ctxM (.cons gk_sum (.cons tickT_ok (.cons Cf.qNew_ok .nil)))) mixed Try.func14 rfl (by decide) @tk_fun
end Go.Proofs.Ytpfpgjkbnjnjnaa
