/- 'AdmitRules'. -/
import Derived.Test.YtpfpgjkbnjnjnaaWMm
namespace Go.Proofs.Ytpfpgjkbnjnjnaa
open Go Go.Vm Rg
set_option linter.unusedSimpArgs false
set_option linter.unusedVariables false
set_option maxRecDepth 10000
def sRul : Sum := ⟨[i64, .slice i64, i64, i64], fun _ => none, fun _ => .dat .bool (.B true)⟩
def cRul : Ctx := ⟨tabK, refsM, [(3, sTrueT), (19, sMdg), (20, Cf.sMod), (15, sSe), (12, sFd), (13, sRl), (16, sMayA), (22, sMny)], [], keep, mpsM⟩
abbrev LD (n l : D) : List D := seL (cD n) (gD n l) 18446744073709551615
abbrev kD (n ru : D) : Int := Cf.modI ru.int (Cf.nR (cD n))
abbrev sD (n l wi : D) : D := (LD n l).getD (Cf.modI wi.int (LD n l).length).toNat .Z
abbrev rD (n ru : D) : D := Cf.rlsAt (cD n) (kD n ru).toNat
theorem boolA (b : Bool) : (true && (b || true && true)) = true := by cases b <;> rfl
def reB (r s : D) : Bool := bitsOp .andNot .u64 ((s.nth 0).nth 0).int (r.nth 1).int == 0
def fiB (r s : D) : Bool := ((r.nth 3).bool || (r.nth 4).int == (s.nth 3).int) && leB (r.nth 5).int (s.nth 4).int && leB (s.nth 4).int (r.nth 6).int
/-- A stored event has a kind. -/
theorem mem_kind {s y : D} (h : stE s = 0) (hy : y ∈ mrg s) : 0 ≤ (y.nth 3).int ∧ (y.nth 3).int ≤ 25 := by
  have hf : y ∈ flat (lsts s) := (srt_perm _).mem_iff.1 hy
  obtain ⟨i, hi, j, hj, rfl⟩ := mem_flat.1 hf
  have h1 := evF_zero (bef_evs ((st_ok h).1.2 i hi) hj)
  exact ⟨h1.2.2.1, h1.2.2.2.1⟩
theorem find_is {c g y : D} (h : gkE c g = 0) (hy : y ∈ mrg (gS g)) {k : Int} (k0 : 0 ≤ k) (k1 : k < Cf.nR c) :
    fdE c g k (y.nth 0) = (if reB (Cf.rlsAt c k.toNat) y = true then (if fiB (Cf.rlsAt c k.toNat) y = true then 0 else 11) else 7) ∧
    (fdE c g k (y.nth 0) = 0 → fdV c g k (y.nth 0) = .L [.I ((Cf.rlsAt c k.toNat).nth 2).int, .I (y.nth 3).int, .I (y.nth 4).int]) := by
  have hS := (gk_ok h).2.1
  have hg := Tw.get_of_mem hS ((srt_perm _).mem_iff.1 hy)
  have hr : Ru.checkF (Cf.rlsAt c k.toNat) = 0 := ru_at (gk_ok h).1 (by omega)
  have hk := mem_kind hS hy
  have ho : outB c k = false := by rw [outB, Bool.or_eq_false_iff, ltB_false]; exact ⟨by omega, by rw [leB_false]; omega⟩
  rw [(fd_0 h).1, (fd_0 h).2]
  have hE : Ru.eventF (ofE y) = 0 := by
    rw [Ru.eventF, if_neg]
    rw [Bool.or_eq_true, ltB_true, ltB_true]
    show ¬ ((y.nth 3).int < 0 ∨ 25 < (y.nth 3).int)
    omega
  have hB : Ru.bothF (Cf.rlsAt c k.toNat) (ofE y) = 0 := by rw [Ru.bothF, if_neg (fun k => k hr), hE]
  cases hre : reB (Cf.rlsAt c k.toNat) y with
  | false =>
    have e := ff_2 (c := c) (g := g) (d := y.nth 0) (n := k) ho (show Cf.belowB ((y.nth 0).nth 0).int ((Cf.rlsAt c k.toNat).nth 1).int = false from hre)
    rw [e.1, if_neg (by decide)]
    exact ⟨rfl, fun h => by cases h⟩
  | true =>
    have e := ff_4 (c := c) (g := g) (d := y.nth 0) (n := k) ho (show Cf.belowB ((y.nth 0).nth 0).int ((Cf.rlsAt c k.toNat).nth 1).int = true from hre) hg.1
    rw [e.1, e.2, hg.2, if_pos rfl]
    have hb : Ru.belowB ((ofE y).nth 0).int ((Cf.rlsAt c k.toNat).nth 1).int = true := hre
    cases hfi : fiB (Cf.rlsAt c k.toNat) y with
    | false =>
      have h1 : Ru.relErr (Cf.rlsAt c k.toNat) (ofE y) = 11 := by
        rw [Ru.relErr, if_neg (fun k => k hB), if_neg (by rw [hb]; decide), if_pos (show Ru.fitsB (Cf.rlsAt c k.toNat) (ofE y) = false from hfi)]
      rw [h1, if_neg (by decide)]
      exact ⟨rfl, fun h => by cases h⟩
    | true =>
      have h1 : Ru.relErr (Cf.rlsAt c k.toNat) (ofE y) = 0 := by
        rw [Ru.relErr, if_neg (fun k => k hB), if_neg (by rw [hb]; decide), if_neg (by rw [show Ru.fitsB (Cf.rlsAt c k.toNat) (ofE y) = true from hfi]; decide)]
      rw [h1, if_pos rfl]
      exact ⟨rfl, fun _ => by rw [Ru.relF, if_pos h1]; rfl⟩
theorem ru_res {c : D} (h : Cf.chE c = 0) {k : Nat} (hk : k < Cf.nR c) : (bitsOp .andNot .u64 ((Cf.rlsAt c k).nth 2).int ((Cf.rlsAt c k).nth 1).int != 0) = false := by
  have h1 := (Cf.ch_ok.1 h).2.2.2.1 k hk
  have h1 : Cf.ruF (Cf.rlsAt c k) = 0 := h1
  unfold Cf.ruF at h1
  split at h1
  · cases h1
  split at h1
  · cases h1
  rename_i h2 h3
  have h4 : Cf.belowB ((Cf.rlsAt c k).nth 2).int ((Cf.rlsAt c k).nth 1).int = true := by simpa using h3
  rw [Cf.belowB, beq_iff_eq] at h4
  rw [h4]; rfl
theorem seL_mem {c g y : D} {L : Int} (hy : y ∈ seL c g L) : y ∈ mrg (gS g) := by
  unfold seL at hy
  split at hy
  · cases hy
  · exact (List.mem_filter.1 hy).1
theorem s_mem (n l wi : D) (h : (LD n l).length ≠ 0) : 0 ≤ Cf.modI wi.int (LD n l).length ∧ Cf.modI wi.int (LD n l).length < ((LD n l).length : Int) ∧ sD n l wi ∈ mrg (gS (gD n l)) := by
  have hle : (LD n l).length ≤ 512 := by
    have hS := (gk_ok (g_ok n l).gk).2.1
    have e : LD n l = (mrg (gS (gD n l))).filter (seeP 18446744073709551615) := if_neg fun k => k (g_ok n l).gk
    rw [e]
    refine Nat.le_trans (List.length_filter_le _ _) ?_
    rw [listT_ok hS]; exact list_len hS
  have h1 := Cf.modI_range (a := wi.int) (n := (LD n l).length) (by omega) (by omega)
  refine ⟨h1.1, h1.2, seL_mem (c := cD n) (g := gD n l) (L := 18446744073709551615) ?_⟩
  have h2 : (Cf.modI wi.int (LD n l).length).toNat < (LD n l).length := by omega
  show (LD n l).getD (Cf.modI wi.int (LD n l).length).toNat .Z ∈ LD n l
  rw [List.getD_eq_getElem?_getD, List.getElem?_eq_getElem h2]
  exact List.getElem_mem h2
theorem k_in (n ru : D) (h : Cf.nR (cD n) ≠ 0) : 0 ≤ kD n ru ∧ kD n ru < (Cf.nR (cD n) : Int) := by
  have h4 : Cf.nR (cD n) ≤ 8 := by
    have h1 := (Cf.ch_ok.1 (c_ok n)).1
    simp only [Cf.fullB, Bool.or_eq_false_iff, ltB_false] at h1
    omega
  exact Cf.modI_range (by omega) (by omega)
/-- What a release leaves. -/
theorem rel_many {c g d : D} {k L : Int} {i : Nat} (I : GInv c g i) (h : rlE c g k d = 0) (hv : ((fdV c g k d).nth 0).int = L) : mnW (rlG c g k d) L (nG (gS (rlG c g k d))) = mnW g L (nG (gS g)) + 1 ∧ 0 ≤ mnW g L (nG (gS g)) ∧ mnW g L (nG (gS g)) ≤ 64 := by
  obtain ⟨h1, h2, h3⟩ := rl_parts h
  have hu := use_cls I.gk (pa_parts h2).2.1
  rw [hv] at hu
  have e := many_put I h2 hu.1 (hv.trans hu.2.1.symm) hu.1
  rw [hu.2.1, if_pos rfl] at e
  rw [h3]
  refine ⟨e, ?_⟩
  have h4 := many_is I.gk hu.1
  have hn : Cf.fl c L < nG (gS g) := by rw [(gk_nG I.gk).1]; exact hu.1
  have hc : chk (rgAt (gS g) (Cf.fl c L)) = 0 := (st_ok (gk_ok I.gk).2.1).1.2 _ hn
  have h5 := chk_room hc
  rw [hu.2.1] at h4
  rw [h4.1]; omega
set_option maxHeartbeats 4000000 in
theorem rul_fun : FunOK cRul 300 Try.f5 sRul := fun n hn l hl ru hru wi hwi _ => by
  have I := g_ok n l
  refine ⟨fun h1 => absurd h1 ?_, fun h1 => ⟨fun h2 => Bears.bool rfl, fun h2 => ?_⟩⟩
  · show ¬ (!true || gkE (cD n) (gD n l) != 0) = true
    rw [I.gk]; decide
  have h2 : ((Cf.nR (cD n) : Int) == 0 || ((LD n l).length : Int) == 0) = false := h2
  rw [Bool.or_eq_false_iff, beq_eq_false_iff_ne, beq_eq_false_iff_ne] at h2
  have hk := k_in n ru (by omega)
  have hs := s_mem n l wi (by omega)
  have hF := find_is I.gk hs.2.2 hk.1 hk.2
  refine ⟨hk, ⟨hs.1, hs.2.1⟩, by kernel_rfl, fun h3 => absurd h3 ?_, fun h3 => ⟨fun h4 => Bears.bool ?_, fun h4 => ⟨fun h5 => absurd h5 ?_, fun h5 => ⟨by kernel_rfl, Bears.bool ?_⟩⟩⟩⟩
  · show ¬ (!((fdE (cD n) (gD n l) (kD n ru) ((sD n l wi).nth 0) == 0) == (reB (rD n ru) (sD n l wi) && fiB (rD n ru) (sD n l wi))) || fdE (cD n) (gD n l) (kD n ru) ((sD n l wi).nth 0) == 7 && reB (rD n ru) (sD n l wi) || fdE (cD n) (gD n l) (kD n ru) ((sD n l wi).nth 0) == 11 && fiB (rD n ru) (sD n l wi)) = true
    rw [hF.1]
    cases reB (rD n ru) (sD n l wi) <;> cases fiB (rD n ru) (sD n l wi) <;> decide
  · show (true && rlE (cD n) (gD n l) (kD n ru) ((sD n l wi).nth 0) == fdE (cD n) (gD n l) (kD n ru) ((sD n l wi).nth 0)) = true
    have e := rl_1 (c := cD n) (g := gD n l) (n := kD n ru) (d := (sD n l wi).nth 0) (bneT h4)
    rw [e.1]; simp
  all_goals have hE0 : fdE (cD n) (gD n l) (kD n ru) ((sD n l wi).nth 0) = 0 := bneF h4
  all_goals have hV := hF.2 hE0
  all_goals have h25 := mgN_25 l.list
  · have e : rlE (cD n) (gD n l) (kD n ru) ((sD n l wi).nth 0) = puE (cD n) (gD n l) (.L [.I ((rD n ru).nth 2).int, .I 0, .I 0]) := by
      have hk2 := mem_kind (gk_ok I.gk).2.1 hs.2.2
      have e1 : rlE (cD n) (gD n l) (kD n ru) ((sD n l wi).nth 0) = paE (cD n) (gD n l) (fdV (cD n) (gD n l) (kD n ru) ((sD n l wi).nth 0)) := if_neg fun k => k hE0
      rw [e1, hV, ← (pu_y I.gk).1]
      exact pu_same I (by omega) (ev_kind hk2.1 hk2.2) rfl rfl
    show ¬ (!eqD eventS (fdV (cD n) (gD n l) (kD n ru) ((sD n l wi).nth 0)) (.L [.I ((rD n ru).nth 2).int, .I ((sD n l wi).nth 3).int, .I ((sD n l wi).nth 4).int]) || bitsOp .andNot .u64 ((rD n ru).nth 2).int ((rD n ru).nth 1).int != 0 || rlE (cD n) (gD n l) (kD n ru) ((sD n l wi).nth 0) != puE (cD n) (gD n l) (.L [.I ((rD n ru).nth 2).int, .I 0, .I 0])) = true
    rw [hV, eqEv, ru_res (c_ok n) (by omega), e, neSelf]; decide
  · show (true && (rlE (cD n) (gD n l) (kD n ru) ((sD n l wi).nth 0) != 0 || eqD recS (rlR (cD n) (gD n l) (kD n ru) ((sD n l wi).nth 0)) (.L [.I (kD n ru), (sD n l wi).nth 0, .I (((sD n l wi).nth 0).nth 0).int, .I ((rD n ru).nth 2).int, .I ((gS (gD n l)).nth 2).int]) &&
      mnW (rlG (cD n) (gD n l) (kD n ru) ((sD n l wi).nth 0)) ((rD n ru).nth 2).int (nG (gS (rlG (cD n) (gD n l) (kD n ru) ((sD n l wi).nth 0)))) == IntKind.i64.wrap (mnW (gD n l) ((rD n ru).nth 2).int (nG (gS (gD n l))) + 1))) = true
    by_cases h0 : rlE (cD n) (gD n l) (kD n ru) ((sD n l wi).nth 0) = 0
    · have hp := rl_parts h0
      have e2 := (rl_0 hE0 hp.2.1).2.2
      have e3 := rel_many (L := ((rD n ru).nth 2).int) I h0 (by rw [hV]; rfl)
      rw [e2, e3.1, wrap_i64 (by omega) (by omega), hV]
      have e4 : eqD recS (.L [.I (kD n ru), (sD n l wi).nth 0, .I (((sD n l wi).nth 0).nth 0).int, .I ((D.L [.I ((rD n ru).nth 2).int, .I ((sD n l wi).nth 3).int, .I ((sD n l wi).nth 4).int]).nth 0).int, .I ((gS (gD n l)).nth 2).int]) (.L [.I (kD n ru), (sD n l wi).nth 0, .I (((sD n l wi).nth 0).nth 0).int, .I ((rD n ru).nth 2).int, .I ((gS (gD n l)).nth 2).int]) = true := eqRec _
      rw [e4]
      show (true && (rlE (cD n) (gD n l) (kD n ru) ((sD n l wi).nth 0) != 0 || true && (mnW (gD n l) ((rD n ru).nth 2).int (nG (gS (gD n l))) + 1 == mnW (gD n l) ((rD n ru).nth 2).int (nG (gS (gD n l))) + 1))) = true
      rw [beq_self_eq_true]
      exact boolA _
    · have : (rlE (cD n) (gD n l) (kD n ru) ((sD n l wi).nth 0) != 0) = true := bne_iff_ne.2 h0
      rw [this]; rfl
theorem rul_ok : SumOK Try.prog 5 sRul := sumOK_of_vc (c := cRul) (ctxK (.cons known_ok (.cons mdg_sum (.cons Cf.mod_ok (.cons se_sum (.cons fd_sum (.cons rl_sum (.cons mayA_sum (.cons mny_sum .nil))))))))) mixed Try.func5 rfl (by decide) @rul_fun
end Go.Proofs.Ytpfpgjkbnjnjnaa
