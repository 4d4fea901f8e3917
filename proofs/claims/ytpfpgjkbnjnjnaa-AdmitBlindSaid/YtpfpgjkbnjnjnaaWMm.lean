/- 'AdmitOne'. -/
import Derived.Test.YtpfpgjkbnjnjnaaWMl
namespace Go.Proofs.Ytpfpgjkbnjnjnaa
open Go Go.Vm Rg
set_option linter.unusedSimpArgs false
set_option linter.unusedVariables false
set_option maxRecDepth 10000
/-! ### Plain -/
theorem pu_same {c g e f : D} {i : Nat} (I : GInv c g i) (hi : i ≤ 100) (he : evBad e = false) (hf : evBad f = false) (hl : (e.nth 0).int = (f.nth 0).int) : puE c g e = puE c g f := by
  rw [(pu_y I.gk).1, (pu_y I.gk).1]
  by_cases hu : Cf.useX c (gR g) (e.nth 0).int = 0
  · have hu' := hu
    rw [hl] at hu'
    have hr : rgE (gS g) e = rgE (gS g) f := by rw [rgE, rgE, labE, labE, hl]
    rw [pa_is I hi he hu, pa_is I hi hf hu', hr]
  · have hu' := hu
    rw [hl] at hu'
    rw [(pa_2 he hu).1, (pa_2 hf hu').1, hl]
theorem use_at {c g e : D} {i : Nat} (I : GInv c g i) (h : paE c g e = 0) {k : Nat} (hk : k < Cf.nC c) (hl : (e.nth 0).int = Cf.labAt c k) (j : Nat) :
    Cf.usedAt (gR (paG c g e)) j = if j = k then Cf.usedAt (gR g) j + 1 else Cf.usedAt (gR g) j := by
  obtain ⟨h0, h1, h2, h3, _⟩ := pa_parts h
  have hf : Cf.fl c (e.nth 0).int = k := by rw [hl]; exact Cf.fl_lab (gk_ok I.gk).1 hk
  rw [h3]
  show Cf.usedAt (Cf.useU c (gR g) (e.nth 0).int) j = _
  rw [Cf.useU_at h1, hf]
theorem many_put {c g e : D} {i : Nat} (I : GInv c g i) (h : paE c g e = 0) {k : Nat} (hk : k < Cf.nC c) (hl : (e.nth 0).int = Cf.labAt c k) {j : Nat} (hj : j < Cf.nC c) :
    mnW (paG c g e) (Cf.labAt c j) (nG (gS (paG c g e))) = mnW g (Cf.labAt c j) (nG (gS g)) + if j = k then 1 else 0 := by
  have I2 := g_put I h
  obtain ⟨h0, h1, h2, h3, _⟩ := pa_parts h
  have hc := use_cls I.gk h1
  have hf : Cf.fl c (e.nth 0).int = k := by rw [hl]; exact Cf.fl_lab (gk_ok I.gk).1 hk
  rw [(many_is I2.gk hj).1, (many_is I.gk hj).1]
  have hn : j < nG (gS g) := by rw [(gk_nG I.gk).1]; exact hj
  have e1 : rgAt (gS (paG c g e)) j = if j = cI (gS g) (labE e) then putD (rgE (gS g) e) (newE (gS g) e) else rgAt (gS g) j := by
    rw [h3]; exact pu_at I.inv.nn I.inv.ok h2 j hn
  have e2 : cI (gS g) (labE e) = k := by rw [← hf]; exact hc.2.2.1
  rw [e1, e2]
  by_cases hjk : j = k
  · rw [if_pos hjk, if_pos hjk, cap_putD]
    · rw [rgE, e2, ← hjk]; omega
    · have hn2 : k < nG (gS g) := hjk ▸ hn
      rw [rgE, e2]; exact chk_bad ((st_ok I.inv.ok).1.2 k hn2)
  · rw [if_neg hjk, if_neg hjk]; omega
theorem tick_may {c g : D} {i : Nat} (I : GInv c g i) (hi : i ≤ 30) {k : Nat} (hk : k < Cf.nC c) {e : D} (he : evBad e = false) (hl : (e.nth 0).int = Cf.labAt c k) :
    puE c (tkG c g) e ≠ 14 ∧ (puE c (tkG c g) e = 15 → Cf.rateAt c k = 0) := by
  obtain ⟨h1, h2, I2⟩ := g_tick I hi
  have hq : Cf.qk c (gR (tkG c g)) = 0 := (gk_ok I2.gk).2.2.2.2
  have hu := Cf.use_lab hq hk
  have hz : Cf.usedAt (gR (tkG c g)) k = 0 := by
    rw [h2]; exact Cf.newU_at (gk_ok I.gk).1 k
  rw [hz, ← hl] at hu
  rw [(pu_y I2.gk).1]
  by_cases hr : Cf.rateAt c k = 0
  · rw [if_pos hr] at hu
    rw [(pa_2 he (by rw [hu]; decide)).1, hu]
    exact ⟨by decide, fun _ => hr⟩
  · rw [if_neg hr] at hu
    rw [pa_is I2 (by omega) he hu]
    split
    · exact ⟨by decide, fun h => by cases h⟩
    · exact ⟨by decide, fun h => by cases h⟩
theorem put_rec {c g e : D} {i : Nat} (I : GInv c g i) (hi : i ≤ 100) (h : paE c g e = 0) :
    ((paX c g e).nth 0 |>.nth 0).int = (e.nth 0).int ∧ ((paX c g e).nth 3).int = (e.nth 1).int ∧ ((paX c g e).nth 4).int = (e.nth 2).int ∧ ((paX c g e).nth 2).int = ((gS g).nth 2).int ∧ ((paX c g e).nth 1).int = IntKind.u64.wrap (((gS g).nth 1).int + 1) := by
  obtain ⟨h0, h1, h2, _, h4⟩ := pa_parts h
  have ha := I.arr
  have hn := I.inv.nn.1
  refine ⟨pa_lab h, ?_⟩
  rw [h4, ← (pu_ok h2).2.1, wrap_u64 (by have : 0 ≤ ((gS g).nth 1).int := hn; omega) (by omega)]
  exact ⟨rfl, rfl, rfl, rfl⟩
/-! ### The law -/
def sOne' : Sum := ⟨[i64, .slice i64, i64, i64, i64], fun _ => none, fun _ => .dat .bool (.B true)⟩
def cOn : Ctx := ⟨tabK, refsM, [(3, sTrueT), (19, sMdg), (20, Cf.sMod), (16, sMayA), (21, sPu), (22, sMny), (14, sTkA)], [], keep, mpsM⟩
abbrev cD (n : D) : D := Cf.cfgD (Cf.cfgK n.int)
abbrev gD (n l : D) : D := mgG (cD n) l.list (mgN l.list)
abbrev atD (n wh : D) : Int := Cf.modI wh.int (Cf.nC (cD n))
abbrev xD (n wh kd v : D) : D := .L [.I (Cf.labAt (cD n) (atD n wh).toNat), .I (Cf.modI kd.int 26), .I v.int]
theorem c_ok (n : D) : Cf.chE (cD n) = 0 := Cf.cfg_right (Cf.cfgK_range n.int).1 (Cf.cfgK_range n.int).2
theorem g_ok (n l : D) : GInv (cD n) (gD n l) (mgN l.list) := g_mg (c_ok n) l.list (Nat.le_trans (Nat.min_le_right _ _) (by decide))
theorem mgN_25 (l : List D) : mgN l ≤ 25 := Nat.min_le_right _ _
theorem nC_cfg (n : D) : 2 ≤ Cf.nC (cD n) ∧ Cf.nC (cD n) ≤ 5 := by rw [Cf.cfg_nC]; exact Cf.cfgN_range (Cf.cfgK_range n.int).1
theorem at_in (n wh : D) : 0 ≤ atD n wh ∧ atD n wh < (Cf.nC (cD n) : Int) := by
  have := nC_cfg n
  exact Cf.modI_range (by omega) (by omega)
theorem atN (n wh : D) : (atD n wh).toNat < Cf.nC (cD n) := by have := at_in n wh; omega
theorem kd_in (kd : D) : 0 ≤ Cf.modI kd.int 26 ∧ Cf.modI kd.int 26 < 26 := Cf.modI_range (by omega) (by omega)
theorem xD_good (n wh kd v : D) : evBad (xD n wh kd v) = false := by
  have := kd_in kd
  exact ev_kind (show 0 ≤ Cf.modI kd.int 26 by omega) (show Cf.modI kd.int 26 ≤ 25 by omega)
theorem may_is (n l wh kd v : D) : puE (cD n) (gD n l) (.L [.I (Cf.labAt (cD n) (atD n wh).toNat), .I 0, .I 0]) = puE (cD n) (gD n l) (xD n wh kd v) :=
  pu_same (g_ok n l) (Nat.le_trans (mgN_25 _) (by decide)) rfl (xD_good n wh kd v) rfl
theorem lens {c g : D} {i : Nat} (I : GInv c g i) : nG (gS g) = Cf.nC c ∧ Cf.nU (gR g) = Cf.nC c := ⟨(gk_nG I.gk).1, (Cf.qk_ok (gk_ok I.gk).2.2.2.2).1⟩
theorem x_lab (n wh kd v : D) : ((xD n wh kd v).nth 0).int = Cf.labAt (cD n) (atD n wh).toNat := rfl
theorem one_le (n l : D) {i : Nat} (hi : i < Cf.nC (cD n)) : (ltB (Cf.rateAt (cD n) i) (Cf.usedAt (gR (gD n l)) i) || ltB (Cf.sizeAt (cD n) i) (mnW (gD n l) (Cf.labAt (cD n) i) (nG (gS (gD n l))))) = false := by
  have I := g_ok n l
  have h1 := Cf.qk_at (gk_ok I.gk).2.2.2.2 hi
  have h2 := many_is I.gk hi
  rw [h2.1, Bool.or_eq_false_iff, ltB_false, ltB_false]
  exact ⟨by omega, by omega⟩
theorem mn_le (n l : D) {i : Nat} (hi : i < Cf.nC (cD n)) : 0 ≤ mnW (gD n l) (Cf.labAt (cD n) i) (nG (gS (gD n l))) ∧ mnW (gD n l) (Cf.labAt (cD n) i) (nG (gS (gD n l))) ≤ 64 := by
  have I := g_ok n l
  have h2 := many_is I.gk hi
  have hn : i < nG (gS (gD n l)) := by rw [(gk_nG I.gk).1]; exact hi
  have hc : chk (rgAt (gS (gD n l)) i) = 0 := (st_ok I.inv.ok).1.2 i hn
  have h3 := chk_room hc
  rw [h2.1]; omega
theorem us_le (n l : D) {i : Nat} (hi : i < Cf.nC (cD n)) : 0 ≤ Cf.usedAt (gR (gD n l)) i ∧ Cf.usedAt (gR (gD n l)) i ≤ 64 := by
  have I := g_ok n l
  have h1 := Cf.qk_at (gk_ok I.gk).2.2.2.2 hi
  have h2 := Cf.rate_le (gk_ok I.gk).1 hi
  omega
theorem one_more (n l wh kd v : D) (h : puE (cD n) (gD n l) (xD n wh kd v) = 0) {i : Nat} (hi : i < Cf.nC (cD n)) {m : Int} (hm : m = if i = (atD n wh).toNat then 1 else 0) :
    (Cf.usedAt (gR (puG (cD n) (gD n l) (xD n wh kd v))) i != IntKind.i64.wrap (Cf.usedAt (gR (gD n l)) i + m) ||
      mnW (puG (cD n) (gD n l) (xD n wh kd v)) (Cf.labAt (cD n) i) (nG (gS (puG (cD n) (gD n l) (xD n wh kd v)))) != IntKind.i64.wrap (mnW (gD n l) (Cf.labAt (cD n) i) (nG (gS (gD n l))) + m)) = false := by
  have I := g_ok n l
  have y := pu_y I.gk (e := xD n wh kd v)
  have h0 : paE (cD n) (gD n l) (xD n wh kd v) = 0 := y.1 ▸ h
  have hu := us_le n l hi
  have hmn := mn_le n l hi
  have h01 : 0 ≤ m ∧ m ≤ 1 := by rw [hm]; split <;> omega
  rw [y.2.1, use_at I h0 (atN n wh) (x_lab n wh kd v) i, many_put I h0 (atN n wh) (x_lab n wh kd v) hi, wrap_i64 (by omega) (by omega), wrap_i64 (by omega) (by omega), hm]
  by_cases e : i = (atD n wh).toNat
  · simp [e]
  · simp [e]
theorem lens_put (n l wh kd v : D) (h : puE (cD n) (gD n l) (xD n wh kd v) = 0) : nG (gS (puG (cD n) (gD n l) (xD n wh kd v))) = Cf.nC (cD n) ∧ Cf.nU (gR (puG (cD n) (gD n l) (xD n wh kd v))) = Cf.nC (cD n) := by
  have I := g_ok n l
  have y := pu_y I.gk (e := xD n wh kd v)
  have h0 : paE (cD n) (gD n l) (xD n wh kd v) = 0 := y.1 ▸ h
  rw [y.2.1]
  exact lens (g_put I h0)
theorem one_tick (n l wh : D) : (tkE (cD n) (gD n l) != 0 || puE (cD n) (tkG (cD n) (gD n l)) (.L [.I (Cf.labAt (cD n) (atD n wh).toNat), .I 0, .I 0]) == 15 && ltB 0 (Cf.rateAt (cD n) (atD n wh).toNat) || puE (cD n) (tkG (cD n) (gD n l)) (.L [.I (Cf.labAt (cD n) (atD n wh).toNat), .I 0, .I 0]) == 14) = false := by
  have I := g_ok n l
  have h25 := mgN_25 l.list
  have ht := (g_tick I (by omega)).1
  have h := tick_may I (by omega) (atN n wh) (e := .L [.I (Cf.labAt (cD n) (atD n wh).toNat), .I 0, .I 0]) rfl rfl
  generalize puE (cD n) (tkG (cD n) (gD n l)) (.L [.I (Cf.labAt (cD n) (atD n wh).toNat), .I 0, .I 0]) = E at h
  rw [ht]
  have h14 : (E == 14) = false := by simp [h.1]
  rw [h14]
  by_cases h15 : E = 15
  · rw [h.2 h15]
    subst h15; rfl
  · have : (E == 15) = false := by simp [h15]
    rw [this]; rfl
theorem one_fin (n l wh kd v : D) : (true && (puE (cD n) (gD n l) (xD n wh kd v) != 0 ||
      (((puX (cD n) (gD n l) (xD n wh kd v)).nth 0).nth 0).int == ((xD n wh kd v).nth 0).int && ((puX (cD n) (gD n l) (xD n wh kd v)).nth 3).int == ((xD n wh kd v).nth 1).int && ((puX (cD n) (gD n l) (xD n wh kd v)).nth 4).int == ((xD n wh kd v).nth 2).int &&
        ((puX (cD n) (gD n l) (xD n wh kd v)).nth 2).int == ((gS (gD n l)).nth 2).int && ((puX (cD n) (gD n l) (xD n wh kd v)).nth 1).int == IntKind.u64.wrap (((gS (gD n l)).nth 1).int + 1))) = true := by
  have I := g_ok n l
  have h25 := mgN_25 l.list
  have y := pu_y I.gk (e := xD n wh kd v)
  by_cases h : puE (cD n) (gD n l) (xD n wh kd v) = 0
  · have h0 : paE (cD n) (gD n l) (xD n wh kd v) = 0 := y.1 ▸ h
    obtain ⟨r1, r2, r3, r4, r5⟩ := put_rec I (by omega) h0
    rw [h, y.2.2, r1, r2, r3, r4, r5]; simp
  · have : (puE (cD n) (gD n l) (xD n wh kd v) != 0) = true := by simp [h]
    rw [this]; rfl
set_option maxHeartbeats 4000000 in
theorem one_fun' : FunOK cOn 300 Try.f4 sOne' := fun n hn l hl wh hwh kd hkd v hv _ => by
  have I := g_ok n l
  have hL := lens I
  refine ⟨fun h1 => absurd h1 ?_, fun h1 => ⟨at_in n wh, by kernel_rfl, fun h2 => absurd h2 ?_, fun h2 => ?_⟩⟩
  · show ¬ (!true || (nG (gS (gD n l)) : Int) != (Cf.nC (cD n) : Int) || (Cf.nU (gR (gD n l)) : Int) != (Cf.nC (cD n) : Int)) = true
    rw [hL.1, hL.2]; simp
  · intro h2
    have h2 : (puE (cD n) (gD n l) (xD n wh kd v) != puE (cD n) (gD n l) (.L [.I (Cf.labAt (cD n) (atD n wh).toNat), .I 0, .I 0]) ||
      (puE (cD n) (gD n l) (xD n wh kd v) == 0 && ((nG (gS (puG (cD n) (gD n l) (xD n wh kd v))) : Int) != (Cf.nC (cD n) : Int) || (Cf.nU (gR (puG (cD n) (gD n l) (xD n wh kd v))) : Int) != (Cf.nC (cD n) : Int)))) = true := h2
    rw [may_is n l wh kd v, neSelf, Bool.false_or, Bool.and_eq_true, beq_iff_eq] at h2
    have h3 := lens_put n l wh kd v h2.1
    rw [h3.1, h3.2, neSelf] at h2
    cases h2.2
  refine ⟨{ i : Nat // i ≤ Cf.nC (cD n) }, 28, fun i => ([(21, .dat i64 (.I i.1)), (20, .dat i64 (.I (puE (cD n) (gD n l) (xD n wh kd v)))), (19, .ptr 27 storedS [] storedS), (18, .ptr 26 gateS [] gateS), (16, .ptr 22 eventS [] eventS), (15, .dat i64 (.I (atD n wh))), (13, .ptr 1 gateS [] gateS), (12, .ptr 0 Cf.configS [] Cf.configS), (11, .dat .bool (.B true)), (10, .dat .bool (.B false))],
    [(27, .box storedS (.dat storedS (puX (cD n) (gD n l) (xD n wh kd v)))), (26, .box gateS (.dat gateS (puG (cD n) (gD n l) (xD n wh kd v)))), (22, .box eventS (.dat eventS (xD n wh kd v))), (1, .box gateS (.dat gateS (gD n l))), (0, .box Cf.configS (.dat Cf.configS (cD n)))]), fun i => Cf.nC (cD n) - i.1,
    ⟨0, Nat.zero_le _⟩, ⟨[], rfl, ⟨rfl, rfl, rfl, rfl, rfl, rfl, rfl, rfl, rfl, rfl, trivial⟩, ⟨rfl, rfl, rfl, rfl, rfl, trivial⟩⟩, ?_⟩
  intro i
  obtain ⟨i, hi⟩ := i
  have stp : ∀ (hlt : i < Cf.nC (cD n)), IntKind.i64.wrap ((i : Int) + 1) = ((i + 1 : Nat) : Int) := fun hlt => i64_1 (n := i) (by have := (nC_cfg n).2; omega)
  refine ⟨fun h1 => ?_, fun h1 => ?_⟩
  · have hlt : i < Cf.nC (cD n) := ltN h1
    have hu : i < Cf.nU (gR (gD n l)) := by rw [hL.2]; exact hlt
    refine ⟨ix hu, ix hlt, fun h2 => ix hlt, fun h2 => ix hlt, by kernel_rfl, fun h2 => absurd ((one_le n l hlt).symm.trans h2) (by decide), fun h2 => ⟨fun h3 => ?_, fun h3 => ?_⟩⟩
    · exact ⟨⟨i + 1, hlt⟩, ⟨[], rfl, ⟨slot (stp hlt), rfl, rfl, rfl, rfl, rfl, rfl, rfl, rfl, rfl, trivial⟩, ⟨rfl, rfl, rfl, rfl, rfl, trivial⟩⟩, stepLt hlt⟩
    · have hE : puE (cD n) (gD n l) (xD n wh kd v) = 0 := bneF h3
      have hL2 := lens_put n l wh kd v hE
      have hu2 : i < Cf.nU (gR (puG (cD n) (gD n l) (xD n wh kd v))) := by rw [hL2.2]; exact hlt
      have at1 := at_in n wh
      refine ⟨fun h4 => ⟨ix hu2, ix hu, fun h5 => ix hlt, fun h5 => ix hlt, by kernel_rfl, fun h5 => absurd ((one_more n l wh kd v hE hlt (m := 1) ?_).symm.trans h5) (by decide), fun h5 => ?_⟩, fun h4 => ⟨ix hu2, ix hu, fun h5 => ix hlt, fun h5 => ix hlt, by kernel_rfl, fun h5 => absurd ((one_more n l wh kd v hE hlt (m := 0) ?_).symm.trans h5) (by decide), fun h5 => ?_⟩⟩
      · have h4 : ((i : Int) == atD n wh) = true := h4
        rw [beq_iff_eq] at h4
        rw [if_pos (by omega)]
      · exact ⟨⟨i + 1, hlt⟩, ⟨[], rfl, ⟨slot (stp hlt), rfl, rfl, rfl, rfl, rfl, rfl, rfl, rfl, rfl, trivial⟩, ⟨rfl, rfl, rfl, rfl, rfl, trivial⟩⟩, stepLt hlt⟩
      · have h4 : ((i : Int) == atD n wh) = false := h4
        rw [beq_eq_false_iff_ne] at h4
        rw [if_neg (by omega)]
      · exact ⟨⟨i + 1, hlt⟩, ⟨[], rfl, ⟨slot (stp hlt), rfl, rfl, rfl, rfl, rfl, rfl, rfl, rfl, rfl, trivial⟩, ⟨rfl, rfl, rfl, rfl, rfl, trivial⟩⟩, stepLt hlt⟩
  · refine ⟨fun h2 => at_in n wh, fun h2 => absurd ((one_tick n l wh).symm.trans h2) (by decide), fun h2 => Bears.bool (one_fin n l wh kd v)⟩
theorem one_ok' : SumOK Try.prog 4 sOne' := sumOK_of_vc (c := cOn) (ctxK (.cons known_ok (.cons mdg_sum (.cons Cf.mod_ok (.cons mayA_sum (.cons puA_sum (.cons mny_sum (.cons tk_sum .nil)))))))) mixed Try.func4 rfl (by decide) @one_fun'
end Go.Proofs.Ytpfpgjkbnjnjnaa
