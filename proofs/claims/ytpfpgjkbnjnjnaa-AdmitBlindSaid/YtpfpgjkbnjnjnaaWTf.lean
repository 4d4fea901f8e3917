/- Accounts of stores: opened, Put. -/
import Derived.Test.YtpfpgjkbnjnjnaaWTe
namespace Go.Proofs.Ytpfpgjkbnjnjnaa
open Go Go.Vm Rg
set_option linter.unusedSimpArgs false
set_option linter.unusedVariables false
set_option maxRecDepth 10000
theorem bearsL_eq {s : Sh} {ys zs : List D} (h : ys = zs) : BearsL s ys zs := by
  subst h; exact ⟨rfl, fun j _ => Bears.rfl⟩
def outOpen : List D → List D
  | [s] => rgs s
  | _ => []
def sOpen : OSum := ⟨[storeS], fun
  | [s] => some (nG s ≤ 8)
  | _ => none, ringS, true, outOpen⟩
noncomputable def cOp : Ctx := ⟨tabT, refsT, [], [(78, Try.f78)], keep, mpsT⟩
theorem open_fun : FunOOK cOp 60 Try.f54 sOpen := fun s hs h => by
  replace h : nG s ≤ 8 := h
  have hn : nG s = (rgs s).length := rfl
  refine fun b => fun h1 => ⟨fun h2 => ⟨?_, ⟨by decide, by decide⟩, bearsL_eq ?_⟩, fun h2 => ⟨?_, ?_, ⟨by decide, by decide⟩, bearsL_eq ?_⟩⟩
  · have := h1 h2
    replace this : rgs s = [] := this
    show 0 ≤ ((rgs s).length : Int) ∧ ((rgs s).length : Int) ≤ ((rgs s).length : Int) ∧ ((rgs s).length : Int) ≤ (([] : List D).length : Int)
    rw [this]; simp
  · have := h1 h2
    replace this : rgs s = [] := this
    show List.take _ [] = rgs s
    rw [this]; simp
  · show 0 + (rgs s).length ≤ 1073741824
    omega
  · show 0 ≤ ((rgs s).length : Int) ∧ ((rgs s).length : Int) ≤ ((rgs s).length : Int) ∧ ((rgs s).length : Int) ≤ (([] ++ rgs s).length : Int)
    simp
  · show List.take (((rgs s).length : Int)).toNat ([] ++ rgs s) = rgs s
    simp
theorem open_ok : OutOK Try.prog 54 sOpen := outOK_of_vc (c := cOp) (CtxOK.of tabTOK refsTOK .nil (.cons rfl rfl (by decide) .nil) mpsTOK) mixed Try.func54 rfl (by decide) @open_fun
/-! ### Events -/
abbrev eventS : Sh := .struct [u64, i64, i64]
def evC (e : D) : Int := if (ltB (e.nth 1).int 0 || leB 26 (e.nth 1).int) = true then 11 else 0
def sEvC : Sum := ⟨[eventS], fun _ => none, fun
  | [e] => .dat i64 (.I (evC e))
  | _ => .und⟩
theorem evC_fun : FunOK c0T 60 Try.f27 sEvC := fun e he h => by
  refine ⟨fun h1 => Bears.int ?_, fun h1 => Bears.int ?_⟩
  · exact (if_pos h1).symm
  · exact (if_neg (by rw [show (ltB (e.nth 1).int 0 || leB 26 (e.nth 1).int) = false from h1]; decide)).symm
theorem evC_ok : SumOK Try.prog 27 sEvC := sumOK_of_vc (c := c0T) (ctxT .nil) mixed Try.func27 rfl (by decide) @evC_fun
/-! ### Put -/
def labE (e : D) : Int := (e.nth 0).int
def arr1 (s : D) : Int := (s.nth 1).int + 1
def rgE (s e : D) : D := rgAt s (cI s (labE e))
def putTE (s e : D) : Int := if stE s ≠ 0 then stE s else if evC e ≠ 0 then evC e else if cE s (labE e) ≠ 0 then 14 else if leB 1099511627776 (s.nth 1).int = true then 6 else putE (rgE s e) (arr1 s) (s.nth 2).int (e.nth 1).int (e.nth 2).int
def newE (s e : D) : D := newD (rgE s e) (arr1 s) (s.nth 2).int (e.nth 1).int (e.nth 2).int
def putX (s e : D) : D := if putTE s e ≠ 0 then D0 storedS else newE s e
def putT (s e : D) : D := if putTE s e ≠ 0 then D0 storeS else .L [.L ((rgs s).set (cI s (labE e)) (putD (rgE s e) (newE s e))), .I (arr1 s), s.nth 2, s.nth 3]
def sPutT : Sum := ⟨[storeS, eventS], fun _ => none, fun
  | [s, e] => .tup [.dat storeS (putT s e), .dat storedS (putX s e), .dat i64 (.I (putTE s e))]
  | _ => .und⟩
theorem ite0 {a : Int} {α : Type} {x y : α} (h : a = 0) : (if a ≠ 0 then x else y) = y := if_neg (by simp [h])
theorem putE_0 {r : D} {o t k v : Int} (h : putE r o t k v = 0) : chk r = 0 ∧ evF (r.nth 0).int (r.nth 3).int (newD r o t k v) (bef r (cap r)) = 0 ∧ (cap r : Int) < (r.nth 1).int ∧ (r.nth 3).int ≤ 1099511627776 := by
  unfold putE at h
  split at h
  · rename_i h1; exact absurd h h1
  split at h
  · rename_i h1; exact absurd h h1
  split at h
  · cases h
  rename_i h1 h2 h3
  replace h1 : chk r = 0 := by simpa using h1
  replace h2 : evF (r.nth 0).int (r.nth 3).int (newD r o t k v) (bef r (cap r)) = 0 := by simpa using h2
  have hc := cap_le (chk_bad h1)
  simp only [Bool.or_eq_true, beq_iff_eq, ltB_true, not_or] at h3
  exact ⟨h1, h2, by omega, by omega⟩
theorem chk_put {r : D} {o t k v : Int} (h : putE r o t k v = 0) : chk (putD r (newD r o t k v)) = 0 := by
  obtain ⟨h1, h2, h3, h4⟩ := putE_0 h
  exact chk_putD h1 h3 h4 h2
theorem get_put_new {r : D} {o t k v : Int} (h : putE r o t k v = 0) : getE (putD r (newD r o t k v)) (r.nth 3).int = 0 ∧ getD' (putD r (newD r o t k v)) (r.nth 3).int = newD r o t k v := by
  obtain ⟨h1, h2, h3, h4⟩ := putE_0 h
  have hb := badR_false (chk_bad h1)
  have h0 := putD_0 r (newD r o t k v)
  have e : getE (putD r (newD r o t k v)) (r.nth 3).int = 0 := by
    rw [getE, ite0 (chk_put h), h0.2.2.1, h0.2.2.2, if_neg]
    simp only [Bool.or_eq_true, ltB_true, leB_true]; omega
  refine ⟨e, ?_⟩
  rw [getD', ite0 e, putD_4, h0.2.1, if_pos rfl]
theorem pu_err {s e : D} {n : Int} (h : putTE s e = n) (hn : n ≠ 0) : D0 storeS = putT s e ∧ D0 storedS = putX s e ∧ n = putTE s e := by
  subst h
  exact ⟨by rw [putT, if_pos hn], by rw [putX, if_pos hn], rfl⟩
theorem pu_1 {s e : D} (h : stE s ≠ 0) : putTE s e = stE s := by rw [putTE, if_pos h]
theorem pu_2 {s e : D} (h : stE s = 0) (h2 : evC e ≠ 0) : putTE s e = evC e := by rw [putTE, ite0 h, if_pos h2]
theorem cE_14 {s : D} {l : Int} (h : cE s l ≠ 0) : cE s l = 14 := by
  unfold cE at h ⊢
  split
  · rename_i h1; rw [if_pos h1] at h; exact absurd rfl h
  · rfl
theorem pu_3 {s e : D} (h : stE s = 0) (h2 : evC e = 0) (h3 : cE s (labE e) ≠ 0) : putTE s e = cE s (labE e) := by rw [putTE, ite0 h, ite0 h2, if_pos h3, cE_14 h3]
theorem pu_4 {s e : D} (h : stE s = 0) (h2 : evC e = 0) (h3 : cE s (labE e) = 0) (h4 : leB 1099511627776 (s.nth 1).int = true) : putTE s e = 6 := by rw [putTE, ite0 h, ite0 h2, ite0 h3, if_pos h4]
theorem pu_5 {s e : D} (h : stE s = 0) (h2 : evC e = 0) (h3 : cE s (labE e) = 0) (h4 : leB 1099511627776 (s.nth 1).int = false) : putTE s e = putE (rgE s e) (arr1 s) (s.nth 2).int (e.nth 1).int (e.nth 2).int := by rw [putTE, ite0 h, ite0 h2, ite0 h3, if_neg (by rw [h4]; decide)]
theorem pu_ok {s e : D} (h : putTE s e = 0) : D.L [.L ((rgs s).set (cI s (labE e)) (putD (rgE s e) (newE s e))), .I (arr1 s), s.nth 2, s.nth 3] = putT s e ∧ newE s e = putX s e ∧ 0 = putTE s e := by
  exact ⟨by rw [putT, ite0 h], by rw [putX, ite0 h], h.symm⟩
theorem st_rng {s : D} (h : stE s = 0) : (s.nth 1).int ≤ 1099511627776 ∧ (s.nth 2).int ≤ 1099511627776 ∧ 1 ≤ (s.nth 3).int ∧ (s.nth 3).int ≤ 10000 := by
  have := (st_ok h).2.2.1
  simp only [rngG, Bool.or_eq_false_iff, ltB_false] at this
  omega
theorem in_store {s : D} (h : InR storeS s) : 0 ≤ (s.nth 1).int ∧ 0 ≤ (s.nth 2).int ∧ 0 ≤ (s.nth 3).int := by
  have h1 : InRs [.slice ringS, u64, u64, u64] 0 s := by simpa only [InR] using h
  simp only [InRs, InR] at h1
  exact ⟨h1.2.1.1, h1.2.2.1.1, h1.2.2.2.1.1⟩
theorem arr_wrap {s : D} (hs : InR storeS s) (h : stE s = 0) : IntKind.u64.wrap ((s.nth 1).int + 1) = arr1 s := by
  have h1 := in_store hs
  have h2 := st_rng h
  exact wrap_u64 (by omega) (by omega)
noncomputable def cPt : Ctx := ⟨tabT, refsT, [(42, sChk), (27, sEvC), (71, sCls), (72, Rg.sPut), (73, Rg.sGet)], [(56, Try.f56), (57, Try.f57)], keep, (54 + 1000000, .osum sOpen) :: mpsT⟩
set_option maxHeartbeats 2000000 in
theorem putT_fun : FunOK cPt 200 Try.f50 sPutT := fun s hs e he h => by
  have E3 : ∀ {n : Int}, putTE s e = n → n ≠ 0 → Bears storeS (D.L [D.L [], D0 u64, D0 u64, D0 u64]) (putT s e) ∧ Bears storedS (D.L [D0 idS, D0 u64, D0 u64, D0 i64, D0 i64]) (putX s e) ∧ Bears i64 (.I n) (.I (putTE s e)) ∧ True := fun h hn => by
    have := pu_err h hn
    exact ⟨Bears.of_eq this.1, Bears.of_eq this.2.1, Bears.int this.2.2, trivial⟩
  refine ⟨fun h1 => ⟨fun h2 => E3 (pu_2 (by simpa using h1) (neB h2)) (neB h2), fun h2 => ⟨?_, fun h3 => ?_, fun h3 => ⟨?_, by kernel_rfl, fun h4 => ?_, fun h4 => ⟨?_, by kernel_rfl, fun h5 => ?_, fun h5 => ?_⟩⟩⟩⟩, fun h1 => ⟨fun h2 => E3 (pu_1 (neB h2)) (neB h2), fun h2 => ?_⟩⟩
  rotate_right
  · exfalso
    replace h1 : (stE s == 0) = false := h1
    replace h2 : (stE s != 0) = false := h2
    rw [bne, h1] at h2; cases h2
  all_goals replace h1 : stE s = 0 := beq_iff_eq.1 (show (stE s == 0) = true from h1)
  all_goals replace h2 : evC e = 0 := eqB h2
  · exact (st_ok h1).1.1
  · exact E3 (pu_3 h1 h2 (neB h3)) (neB h3)
  all_goals replace h3 : cE s (labE e) = 0 := eqB h3
  · exact (st_ok h1).1.1
  · exact E3 (pu_4 h1 h2 h3 h4) (by decide)
  all_goals have hc := cN_lt h3
  · exact ⟨hc.1, hc.2.1⟩
  all_goals have hw := arr_wrap hs h1
  all_goals have hcn := cN_nat h3
  all_goals replace h5 : (putE (rgAt s (cN s (labE e)).toNat) (IntKind.u64.wrap ((s.nth 1).int + 1)) (s.nth 2).int (e.nth 1).int (e.nth 2).int != 0) = _ := h5
  all_goals rw [hw, hcn] at h5
  · have E := pu_5 h1 h2 h3 h4
    have := E3 E (neB h5)
    refine ⟨this.1, this.2.1, Bears.int ?_, trivial⟩
    show putE (rgAt s (cN s (labE e)).toNat) (IntKind.u64.wrap ((s.nth 1).int + 1)) (s.nth 2).int (e.nth 1).int (e.nth 2).int = _
    rw [hw, hcn]; exact E.symm
  · replace h5 := eqB h5
    have hidx : 0 ≤ cN s (labE e) ∧ cN s (labE e) < ((rgs s).length : Int) := ⟨hc.1, hc.2.1⟩
    apply Exists.intro
    apply Exists.intro
    apply Exists.intro
    refine And.intro ?_ (And.intro ?_ ?_)
    · exact ⟨hidx, by kernel_rfl, rfl, rfl, rfl⟩
    · refine ⟨by kernel_rfl, ?_⟩
      repeat' first | exact trivial | exact hidx | constructor
      all_goals try kernel_rfl
    · apply Exists.intro
      apply Exists.intro
      apply Exists.intro
      refine And.intro ?_ (And.intro ?_ ?_)
      · exact ⟨rfl, rfl, rfl⟩
      · refine ⟨by kernel_rfl, ?_⟩
        repeat' first | exact trivial | exact hidx | constructor
        all_goals try kernel_rfl
      · have E : putTE s e = 0 := (pu_5 h1 h2 h3 h4).trans h5
        have hR : putR (rgAt s (cI s (labE e))) (arr1 s) (s.nth 2).int (e.nth 1).int (e.nth 2).int = putD (rgE s e) (newE s e) := by rw [putR, ite0 h5]; rfl
        have hok := pu_ok E
        have hb := putE_0 h5
        have hbd := badR_false (chk_bad hb.1)
        have h3' : ((putD (rgE s e) (newE s e)).nth 3).int = ((rgE s e).nth 3).int + 1 := (putD_0 (rgE s e) (newE s e)).2.2.2
        have hn : IntKind.u64.wrap (((putD (rgE s e) (newE s e)).nth 3).int - 1) = ((rgE s e).nth 3).int := by
          rw [h3', wrap_u64]
          · omega
          · have := hb.2.2.2; have : 0 ≤ ((rgE s e).nth 3).int := by show 0 ≤ ((rgAt s (cI s (labE e))).nth 3).int; omega
            omega
          · have : ((rgE s e).nth 3).int ≤ 1099511627776 := hb.2.2.2
            omega
        refine ⟨Bears.of_eq ?_, Bears.of_eq ?_, Bears.int hok.2.2, trivial⟩
        · show D.L [.L ((rgs s).set (cN s (labE e)).toNat (putR (rgAt s (cN s (labE e)).toNat) (IntKind.u64.wrap ((s.nth 1).int + 1)) (s.nth 2).int (e.nth 1).int (e.nth 2).int)), .I (IntKind.u64.wrap ((s.nth 1).int + 1)), s.nth 2, s.nth 3] = putT s e
          rw [hw, hcn, hR]; exact hok.1
        · show getD' (putR (rgAt s (cN s (labE e)).toNat) (IntKind.u64.wrap ((s.nth 1).int + 1)) (s.nth 2).int (e.nth 1).int (e.nth 2).int) (IntKind.u64.wrap (((putR (rgAt s (cN s (labE e)).toNat) (IntKind.u64.wrap ((s.nth 1).int + 1)) (s.nth 2).int (e.nth 1).int (e.nth 2).int).nth 3).int - 1)) = putX s e
          rw [hw, hcn, hR, hn, ← hok.2.1]
          exact (get_put_new h5).2
theorem putT_ok : SumOK Try.prog 50 sPutT := sumOK_of_vc (c := cPt) ((CtxOK.of (c := ⟨tabT, refsT, [(42, sChk), (27, sEvC), (71, sCls), (72, Rg.sPut), (73, Rg.sGet)], [(56, Try.f56), (57, Try.f57)], keep, mpsT⟩) tabTOK refsTOK (.cons checkT_ok (.cons evC_ok (.cons cls_ok (.cons Rg.put_ok' (.cons Rg.get_ok .nil))))) (.cons rfl rfl (by decide) (.cons rfl rfl (by decide) .nil)) mpsTOK).withO open_ok) mixed Try.func50 rfl (by decide) @putT_fun
noncomputable def cPtR : Ctx := ⟨tabT, refsT, [], [], keep, mpsT⟩
theorem top_no {s : D} (h : stE s = 0) (h4 : ((s.nth 1).int == 1099511627776) = false) : leB 1099511627776 (s.nth 1).int = false := by
  have := (st_rng h).1
  simp only [leB_false]
  rw [beq_eq_false_iff_ne] at h4; omega
end Go.Proofs.Ytpfpgjkbnjnjnaa
