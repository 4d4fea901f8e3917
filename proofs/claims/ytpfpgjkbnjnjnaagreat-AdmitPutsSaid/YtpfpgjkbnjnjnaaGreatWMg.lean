/- Gates: taking bytes in, ticks; the reference's New, May, Put; 'AdmitPuts'. -/
import Derived.Test.YtpfpgjkbnjnjnaaGreatWMf
namespace Go.Proofs.YtpfpgjkbnjnjnaaGreat
open Go Go.Vm Rg
set_option linter.unusedSimpArgs false
set_option linter.unusedVariables false
set_option maxRecDepth 10000
def cGNR : Ctx := ⟨tabM, refsM, [(50, Cf.sCheckC), (51, sNewT), (52, Cf.sQNew)], [], keep, mpsM⟩
theorem gnR_fun : FunOK cGNR 60 Tryz.f20 sGN := fun c hc _ => by
  refine ⟨fun h1 => ⟨Bears.same (eqSame (if_pos (bneT h1)).symm), Bears.int rfl, trivial⟩, fun h1 => ⟨Bears.same (eqSame (if_neg (by simp [show Cf.chE c = 0 from bneF h1])).symm), Bears.int (bneF h1).symm, trivial⟩⟩
theorem mayR_fun : FunOK cFdR 100 Tryz.f24 sMayA := fun c hc g hg l hl _ => by
  exact ⟨fun h1 => Bears.int (pu_y (c := c) (g := g) (e := .L [.I l.int, .I 0, .I 0]) (eqT h1)).1.symm, fun h1 => Bears.int (pu_n (c := c) (g := g) (e := .L [.I l.int, .I 0, .I 0]) (eqF h1)).1.symm⟩
theorem puR_fun : FunOK cFdR 100 Tryz.f26 sPu := fun c hc g hg e he _ => by
  exact ⟨fun h1 => three (pu_n (bneT h1)), fun h1 => three (pu_y (bneF h1))⟩
/-! ### Bytes -/
def igE (c g : D) (s : ByteArray) : Int := if gkE c g ≠ 0 then gkE c g else if prE s ≠ 0 then prE s else paE c g (prV s)
def igF (c g : D) (s : ByteArray) : Int := if gkE c g ≠ 0 then 0 else if prE s ≠ 0 then prF s else 0
def igG (c g : D) (s : ByteArray) : D := if gkE c g ≠ 0 then D0 gateS else if prE s ≠ 0 then D0 gateS else paG c g (prV s)
def igX (c g : D) (s : ByteArray) : D := if gkE c g ≠ 0 then D0 storedS else if prE s ≠ 0 then D0 storedS else paX c g (prV s)
def sIg : Sum := ⟨[Cf.configS, gateS, .str], fun _ => none, fun
  | [c, g, s] => .tup [.dat gateS (igG c g s.str), .dat storedS (igX c g s.str), .dat faultS (.L [.I (igE c g s.str), .I (igF c g s.str)])]
  | _ => .und⟩
theorem threeF {G X : D} {E F : Int} {G' X' : D} {E' F' : Int} (h : E' = E ∧ F' = F ∧ G' = G ∧ X' = X) : Bears gateS G G' ∧ Bears storedS X X' ∧ Bears faultS (.L [.I E, .I F]) (.L [.I E', .I F']) ∧ True :=
  ⟨Bears.same (eqSame h.2.2.1.symm), Bears.same (eqSame h.2.2.2.symm), Bears.same ⟨h.1.symm, h.2.1.symm, trivial⟩, trivial⟩
theorem ig_1 {c g : D} {s : ByteArray} (h : gkE c g ≠ 0) : igE c g s = gkE c g ∧ igF c g s = 0 ∧ igG c g s = D0 gateS ∧ igX c g s = D0 storedS := ⟨if_pos h, if_pos h, if_pos h, if_pos h⟩
theorem ig_2 {c g : D} {s : ByteArray} (h : gkE c g = 0) (h2 : prE s ≠ 0) : igE c g s = prE s ∧ igF c g s = prF s ∧ igG c g s = D0 gateS ∧ igX c g s = D0 storedS :=
  ⟨(if_neg fun k => k h).trans (if_pos h2), (if_neg fun k => k h).trans (if_pos h2), (if_neg fun k => k h).trans (if_pos h2), (if_neg fun k => k h).trans (if_pos h2)⟩
theorem ig_0 {c g : D} {s : ByteArray} (h : gkE c g = 0) (h2 : prE s = 0) : igE c g s = paE c g (prV s) ∧ igF c g s = 0 ∧ igG c g s = paG c g (prV s) ∧ igX c g s = paX c g (prV s) :=
  ⟨(if_neg fun k => k h).trans (if_neg fun k => k h2), (if_neg fun k => k h).trans (if_neg fun k => k h2), (if_neg fun k => k h).trans (if_neg fun k => k h2), (if_neg fun k => k h).trans (if_neg fun k => k h2)⟩
def cIg : Ctx := ⟨tabW, refsM, [(21, sGk), (58, sPr), (40, sPa)], [], keep, mpsM⟩
theorem ig_fun : FunOK cIg 100 Tryz.f27 sIg := fun c hc g hg s hs _ => by
  exact ⟨fun h1 => threeF (ig_1 (bneT h1)), fun h1 => ⟨fun h2 => ⟨by kernel_rfl, threeF (ig_2 (bneF h1) (bneT h2))⟩, fun h2 => ⟨by kernel_rfl, threeF (ig_0 (bneF h1) (bneF h2))⟩⟩⟩
def cIgR : Ctx := ⟨tabW, refsM, [(22, sGk), (59, sPr), (41, sPaR)], [], keep, mpsM⟩
theorem igR_fun : FunOK cIgR 100 Tryz.f28 sIg := fun c hc g hg s hs _ => by
  exact ⟨fun h1 => threeF (ig_1 (bneT h1)), fun h1 => ⟨fun h2 => ⟨by kernel_rfl, threeF (ig_2 (bneF h1) (bneT h2))⟩, fun h2 => ⟨by kernel_rfl, threeF (ig_0 (bneF h1) (bneF h2))⟩⟩⟩
/-! ### Ticks -/
def tkE (c g : D) : Int := if gkE c g ≠ 0 then gkE c g else tickE (gS g)
def tkG (c g : D) : D := if tkE c g ≠ 0 then D0 gateS else .L [tickT (gS g), Cf.newU c]
def tkN (c g : D) : Int := if tkE c g ≠ 0 then 0 else tickN (gS g)
def sTkA : Sum := ⟨[Cf.configS, gateS], fun _ => none, fun
  | [c, g] => .tup [.dat gateS (tkG c g), .dat i64 (.I (tkN c g)), .dat i64 (.I (tkE c g))]
  | _ => .und⟩
theorem threeT {G : D} {N E : Int} {G' : D} {N' E' : Int} (h : E' = E ∧ G' = G ∧ N' = N) : Bears gateS G G' ∧ Bears i64 (.I N) (.I N') ∧ Bears i64 (.I E) (.I E') ∧ True :=
  ⟨Bears.same (eqSame h.2.1.symm), Bears.int h.2.2.symm, Bears.int h.1.symm, trivial⟩
theorem tk_1 {c g : D} (h : gkE c g ≠ 0) : tkE c g = gkE c g ∧ tkG c g = D0 gateS ∧ tkN c g = 0 := by
  have e : tkE c g = gkE c g := if_pos h
  exact ⟨e, if_pos (by rw [e]; exact h), if_pos (by rw [e]; exact h)⟩
theorem tk_2 {c g : D} (h : gkE c g = 0) (h2 : tickE (gS g) ≠ 0) : tkE c g = tickE (gS g) ∧ tkG c g = D0 gateS ∧ tkN c g = 0 := by
  have e : tkE c g = tickE (gS g) := if_neg fun k => k h
  exact ⟨e, if_pos (by rw [e]; exact h2), if_pos (by rw [e]; exact h2)⟩
theorem tk_0 {c g : D} (h : gkE c g = 0) (h2 : tickE (gS g) = 0) : tkE c g = 0 ∧ tkG c g = .L [tickT (gS g), Cf.newU c] ∧ tkN c g = tickN (gS g) := by
  have e : tkE c g = 0 := (if_neg fun k => k h).trans h2
  exact ⟨e, if_neg fun k => k e, if_neg fun k => k e⟩
def cTkA : Ctx := ⟨tabM, refsM, [(21, sGk), (60, sTick), (49, Cf.sQNew)], [], keep, mpsM⟩
theorem tk_fun : FunOK cTkA 100 Tryz.f29 sTkA := fun c hc g hg _ => by
  refine ⟨fun h1 => threeT (tk_1 (bneT h1)), fun h1 => ⟨fun h2 => threeT (tk_2 (bneF h1) (bneT h2)), fun h2 => threeT ?_⟩⟩
  have h := tk_0 (bneF h1) (bneF h2)
  exact ⟨h.1.trans (gk_ok (bneF h1)).1.symm, h.2⟩
def cTkAR : Ctx := ⟨tabM, refsM, [(22, sGk), (61, sTick), (52, Cf.sQNew)], [], keep, mpsM⟩
theorem tkR_fun : FunOK cTkAR 100 Tryz.f30 sTkA := fun c hc g hg _ => by
  exact ⟨fun h1 => threeT (tk_1 (bneT h1)), fun h1 => ⟨fun h2 => threeT (tk_2 (bneF h1) (bneT h2)), fun h2 => threeT (tk_0 (bneF h1) (bneF h2))⟩⟩
/-! ### The law -/
def sLawP : Sum := ⟨[Cf.configS, gateS, eventS, .str], fun _ => none, fun _ => .dat .bool (.B true)⟩
def cLp : Ctx := ⟨tabW, refsM, [(5, sLightM), (6, sTrueT), (7, Cf.sOwnC), (8, sOwnG), (19, sGN), (20, sGN), (21, sGk), (22, sGk), (23, sMayA), (24, sMayA), (25, sPu), (26, sPu), (27, sIg), (28, sIg), (29, sTkA), (30, sTkA), (13, sSameG), (18, Cf.sSameC)], [], keep, mpsM⟩
theorem puG_len {c g e : D} (h : nG (gS g) ≤ 12) : nG (gS (puG c g e)) ≤ 12 := by
  rw [puG]
  split
  · exact Nat.zero_le _
  · exact paG_len h
theorem igG_len {c g : D} {s : ByteArray} (h : nG (gS g) ≤ 12) : nG (gS (igG c g s)) ≤ 12 := by
  rw [igG]
  split
  · exact Nat.zero_le _
  split
  · exact Nat.zero_le _
  · exact paG_len h
theorem gN_len (c : D) : nG (gS (gN c)) ≤ 12 := by
  rw [gN]
  split
  · exact Nat.zero_le _
  · exact Nat.le_trans (newT_len c) (by decide)
theorem tkG_len {c g : D} (h : nG (gS g) ≤ 12) : nG (gS (tkG c g)) ≤ 12 := by
  rw [tkG]
  split
  · exact Nat.zero_le _
  · exact Nat.le_trans (tickT_len _) h
theorem eqFa (d : D) : eqD faultS d d = true := by simp [eqD, eqDs]
set_option maxHeartbeats 2000000 in
theorem puts_fun : FunOK cLp 200 Tryz.f4 sLawP := fun c hc g hg e he s hs _ => by
  refine ⟨fun h1 => Bears.bool rfl, fun h1 => ?_⟩
  have hL : lightM c g = true := by
    have h1 : (!lightM c g || ltB 100 (s.str.size : Int)) = false := h1
    simp only [Bool.or_eq_false_iff, Bool.not_eq_false'] at h1
    exact h1.1
  have hL' := hL
  simp only [lightM, lightC, Bool.and_eq_true, leB_true] at hL'
  have h12 : nG (gS g) ≤ 12 := by omega
  have hU : Cf.nU (gR g) ≤ 20 := by omega
  have hC : Cf.nC c ≤ 1000 ∧ Cf.nR c ≤ 1000 := by omega
  refine ⟨hC, ⟨h12, hU⟩, by kernel_rfl, gN_len c, by kernel_rfl, fun h2 => absurd h2 ?_, fun h2 => ⟨puG_len h12, fun h3 => absurd h3 ?_, fun h3 => ⟨igG_len h12, fun h4 => absurd h4 ?_, fun h4 => ⟨tkG_len h12, fun h5 => h12, Bears.bool ?_⟩⟩⟩⟩
  · show ¬ (!sameGt (gN c) (gN c) || Cf.chE c != Cf.chE c || gkE c g != gkE c g || puE c g (D.L [D.I (e.nth 0).int, D.I 0, D.I 0]) != puE c g (D.L [D.I (e.nth 0).int, D.I 0, D.I 0])) = true
    rw [sameGt_rfl, neSelf, neSelf, neSelf]; decide
  · show ¬ (!sameGt (puG c g e) (puG c g e) || !eqD storedS (puX c g e) (puX c g e) || puE c g e != puE c g e) = true
    rw [sameGt_rfl, eqStored, neSelf]; decide
  · show ¬ (!sameGt (igG c g s.str) (igG c g s.str) || !eqD storedS (igX c g s.str) (igX c g s.str) || !eqD faultS (D.L [D.I (igE c g s.str), D.I (igF c g s.str)]) (D.L [D.I (igE c g s.str), D.I (igF c g s.str)])) = true
    rw [sameGt_rfl, eqStored, eqFa]; decide
  · show (sameGt (tkG c g) (tkG c g) && tkN c g == tkN c g && tkE c g == tkE c g && Cf.sameC c c && sameGt g g && true) = true
    rw [sameGt_rfl, Cf.sameC_rfl, sameGt_rfl, beq_self_eq_true, beq_self_eq_true]; rfl
/-! ### The summaries -/
theorem gnR_sum : SumOK Tryz.prog 20 sGN := sumOK_of_vc (c := cGNR) (ctxM (.cons Cf.checkR_ok (.cons newRT_ok (.cons Cf.qNewR_ok .nil)))) mixed Tryz.func20 rfl (by decide) @gnR_fun
theorem mayR_sum : SumOK Tryz.prog 24 sMayA := sumOK_of_vc cFdR_ok mixed Tryz.func24 rfl (by decide) @mayR_fun
theorem puR_sum : SumOK Tryz.prog 26 sPu := sumOK_of_vc cFdR_ok mixed Tryz.func26 rfl (by decide) @puR_fun
theorem numW_sum : SumOK Tryz.prog 144 sNumW := sumOK_of_vc (c := c0W) (ctxW .nil) mixed Tryz.func144 rfl (by decide) @numW_fun
theorem numWR_sum : SumOK Tryz.prog 93 sNumW := sumOK_of_vc (c := c0W) (ctxW .nil) mixed Tryz.func93 rfl (by decide) @numWR_fun
theorem cUi_ok : CtxOK Tryz.prog cUi := CtxOK.of tabWOK refsMOK (.cons numW_sum .nil) (.cons rfl rfl (by decide) (.cons rfl rfl (by decide) (.cons rfl rfl (by decide) (.cons rfl rfl (by decide) (.cons rfl rfl (by decide) .nil))))) mpsMOK
theorem ui_sum : SumOK Tryz.prog 129 sUi := sumOK_of_vc cUi_ok mixed Tryz.func129 rfl (by decide) @ui_fun
theorem fa_sum : SumOK Tryz.prog 91 sFa := sumOK_of_vc cUi_ok mixed Tryz.func91 rfl (by decide) @fa_fun
theorem en_sum : SumOK Tryz.prog 92 sEn := sumOK_of_vc cUi_ok mixed Tryz.func92 rfl (by decide) @en_fun
theorem rd_sum : SumOK Tryz.prog 88 sRd := sumOK_of_vc (c := c0W) (ctxW .nil) mixed Tryz.func88 rfl (by decide) @rd_fun
theorem pr_sum : SumOK Tryz.prog 58 sPr := sumOK_of_vc (c := cPr) (CtxOK.of tabWOK refsMOK (.cons rd_sum (.cons ui_sum (.cons fa_sum (.cons en_sum (.cons evC_ok .nil))))) (.cons rfl rfl (by decide) .nil) mpsMOK) mixed Tryz.func58 rfl (by decide) @pr_fun
theorem prR_sum : SumOK Tryz.prog 59 sPr := sumOK_of_vc (c := cPrR) (ctxW (.cons numWR_sum .nil)) mixed Tryz.func59 rfl (by decide) @prR_fun
theorem ig_sum : SumOK Tryz.prog 27 sIg := sumOK_of_vc (c := cIg) (ctxW (.cons gk_sum (.cons pr_sum (.cons pa_sum .nil)))) mixed Tryz.func27 rfl (by decide) @ig_fun
theorem igR_sum : SumOK Tryz.prog 28 sIg := sumOK_of_vc (c := cIgR) (ctxW (.cons gkR_sum (.cons prR_sum (.cons paR_sum .nil)))) mixed Tryz.func28 rfl (by decide) @igR_fun
theorem tk_sum : SumOK Tryz.prog 29 sTkA := sumOK_of_vc (c := cTkA) (ctxM (.cons gk_sum (.cons tickT_ok (.cons Cf.qNew_ok .nil)))) mixed Tryz.func29 rfl (by decide) @tk_fun
theorem tkR_sum : SumOK Tryz.prog 30 sTkA := sumOK_of_vc (c := cTkAR) (ctxM (.cons gkR_sum (.cons tickTR_ok (.cons Cf.qNewR_ok .nil)))) mixed Tryz.func30 rfl (by decide) @tkR_fun
theorem cLp_ok : CtxOK Tryz.prog cLp := ctxW (.cons lightM_sum (.cons awk_sum (.cons Cf.ownC_ok (.cons ownG_sum (.cons gn_sum (.cons gnR_sum (.cons gk_sum (.cons gkR_sum (.cons mayA_sum (.cons mayR_sum (.cons puA_sum (.cons puR_sum (.cons ig_sum (.cons igR_sum (.cons tk_sum (.cons tkR_sum (.cons sameGt_sum (.cons Cf.sameK_ok .nil))))))))))))))))))
theorem puts_sum : SumOK Tryz.prog 4 sLawP := sumOK_of_vc cLp_ok mixed Tryz.func4 rfl (by decide) @puts_fun
end Go.Proofs.YtpfpgjkbnjnjnaaGreat
