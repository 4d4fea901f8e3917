/- Accounts of stores: Tick. -/
import Derived.Test.YtpfpgjkbnjnjnaaWTf
namespace Go.Proofs.Ytpfpgjkbnjnjnaa
open Go Go.Vm Rg
set_option linter.unusedSimpArgs false
set_option linter.unusedVariables false
set_option maxRecDepth 10000
def now1 (s : D) : Int := (s.nth 2).int + 1
def tickK (s : D) (i : Nat) : Nat := evN (rgAt s i) (now1 s) (s.nth 3).int
def tickRg (s : D) (i : Nat) : D := evR (rgAt s i) (tickK s i)
def tickC (s : D) : Nat → Nat
  | 0 => 0
  | n + 1 => tickC s n + tickK s n
def tickL (s : D) (i : Nat) : List D := (List.range i).map (tickRg s) ++ (rgs s).drop i
def tickE (s : D) : Int := if stE s ≠ 0 then stE s else if leB 1099511627776 (s.nth 2).int = true then 6 else 0
def tickN (s : D) : Int := if tickE s ≠ 0 then 0 else tickC s (nG s)
def tickT (s : D) : D := if tickE s ≠ 0 then D0 storeS else .L [.L (tickL s (nG s)), s.nth 1, .I (now1 s), s.nth 3]
def sTick : Sum := ⟨[storeS], fun _ => none, fun
  | [s] => .tup [.dat storeS (tickT s), .dat i64 (.I (tickN s)), .dat i64 (.I (tickE s))]
  | _ => .und⟩
theorem cntUp_le {p : Nat → Bool} : ∀ {m i : Nat}, cntUp p m i ≤ m
  | 0, _ => Nat.le_refl _
  | m + 1, i => by
    have := cntUp_le (p := p) (m := m) (i := i + 1)
    simp only [cntUp]
    split <;> omega
theorem tickK_le {s : D} (h : okRgs s) {i : Nat} (hi : i < nG s) : tickK s i ≤ 64 := by
  have h1 := cap64 (h.2 i hi)
  have h2 : tickK s i ≤ cap (rgAt s i) := cntUp_le
  omega
theorem tickC_le {s : D} (h : okRgs s) : ∀ {i : Nat}, i ≤ nG s → tickC s i ≤ 64 * i
  | 0, _ => by simp [tickC]
  | i + 1, hi => by
    have h1 := tickC_le h (i := i) (by omega)
    have h2 := tickK_le h (i := i) (by omega)
    simp only [tickC]; omega
theorem tickL_len {s : D} {i : Nat} (hi : i ≤ nG s) : (tickL s i).length = nG s := by
  have : nG s = (rgs s).length := rfl
  simp only [tickL, List.length_append, List.length_map, List.length_range, List.length_drop]; omega
theorem tickL_at {s : D} {i : Nat} (hi : i < nG s) : (tickL s i).getD i .Z = rgAt s i := by
  have : nG s = (rgs s).length := rfl
  rw [tickL, rgAt, List.getD_eq_getElem?_getD, List.getElem?_append_right (by simp), List.getD_eq_getElem?_getD]
  simp
theorem tickL_set {s : D} {i : Nat} (hi : i < nG s) : (tickL s i).set i (tickRg s i) = tickL s (i + 1) := by
  have hn : i < (rgs s).length := hi
  rw [tickL, tickL, List.set_append_right _ _ (by simp), List.drop_eq_getElem_cons hn, List.range_succ, List.map_append, List.length_map, List.length_range, Nat.sub_self, List.set_cons_zero]
  simp
theorem tickL_0 (s : D) : tickL s 0 = rgs s := by simp [tickL]
theorem ti_err {s : D} {n : Int} (h : tickE s = n) (hn : n ≠ 0) : D0 storeS = tickT s ∧ 0 = tickN s ∧ n = tickE s := by
  subst h
  exact ⟨by rw [tickT, if_pos hn], by rw [tickN, if_pos hn], rfl⟩
theorem ti_1 {s : D} (h : stE s ≠ 0) : tickE s = stE s := by rw [tickE, if_pos h]
theorem ti_6 {s : D} (h : stE s = 0) (h2 : leB 1099511627776 (s.nth 2).int = true) : tickE s = 6 := by rw [tickE, ite0 h, if_pos h2]
theorem ti_0 {s : D} (h : stE s = 0) (h2 : leB 1099511627776 (s.nth 2).int = false) : tickE s = 0 := by rw [tickE, ite0 h, if_neg (by rw [h2]; decide)]
theorem ti_ok {s : D} (h : tickE s = 0) : D.L [.L (tickL s (nG s)), s.nth 1, .I (now1 s), s.nth 3] = tickT s ∧ (tickC s (nG s) : Int) = tickN s ∧ 0 = tickE s := by
  exact ⟨by rw [tickT, ite0 h], by rw [tickN, ite0 h], h.symm⟩
theorem now_wrap {s : D} (hs : InR storeS s) (h : stE s = 0) : IntKind.u64.wrap ((s.nth 2).int + 1) = now1 s := by
  have h1 := in_store hs
  have h2 := st_rng h
  exact wrap_u64 (by omega) (by omega)
theorem ti_ev {s : D} (h : stE s = 0) (h2 : leB 1099511627776 (s.nth 2).int = false) {i : Nat} (hi : i < nG s) : evE (rgAt s i) (now1 s) (s.nth 3).int = 0 := by
  have h3 := st_rng h
  simp only [leB_false] at h2
  rw [evE, ite0 ((st_ok h).1.2 i hi), if_neg]
  simp only [Bool.or_eq_true, ltB_true, now1]; omega
theorem tickC_1 {s : D} (h : okRgs s) {i : Nat} (hk : i < nG s) (hev : evE (rgAt s i) (now1 s) (s.nth 3).int = 0) : IntKind.i64.wrap ((tickC s i : Int) + (if evE (rgAt s i) (now1 s) (s.nth 3).int ≠ 0 then 0 else (evN (rgAt s i) (now1 s) (s.nth 3).int : Int))) = ((tickC s (i + 1) : Nat) : Int) := by
  have h1 := tickC_le h (i := i) (by omega)
  have h2 := tickK_le h hk
  have h8 := h.1
  rw [ite0 hev]
  show IntKind.i64.wrap ((tickC s i : Int) + (tickK s i : Int)) = ((tickC s i + tickK s i : Nat) : Int)
  rw [wrap_i64 (by omega) (by omega)]; omega
theorem ti_no {s : D} (h : stE s = 0) (h4 : (stE s == 0 && leB 1099511627776 (s.nth 2).int) = false) : leB 1099511627776 (s.nth 2).int = false := by
  rw [h] at h4; exact h4
theorem ti_noR {s : D} (h : stE s = 0) (h4 : (stE s == 0 && (s.nth 2).int == 1099511627776) = false) : leB 1099511627776 (s.nth 2).int = false := by
  rw [h] at h4
  replace h4 : ((s.nth 2).int == 1099511627776) = false := h4
  have := (st_rng h).2.1
  rw [beq_eq_false_iff_ne] at h4
  simp only [leB_false]; omega
abbrev workS : Sh := .struct [.struct [.slice ringS], storeS]
noncomputable def cTk : Ctx := ⟨tabT, refsT, [(42, sChk), (55, Rg.sEvict)], [(56, Try.f56), (57, Try.f57)], keep, (54 + 1000000, .osum sOpen) :: mpsT⟩
set_option maxHeartbeats 2000000 in
theorem tickT_fun : FunOK cTk 200 Try.f35 sTick := fun s hs h => by
  have E3 : ∀ {n : Int}, tickE s = n → n ≠ 0 → Bears storeS (D.L [D.L [], D0 u64, D0 u64, D0 u64]) (tickT s) ∧ Bears i64 (.I 0) (.I (tickN s)) ∧ Bears i64 (.I n) (.I (tickE s)) ∧ True := fun h hn => by
    have := ti_err h hn
    exact ⟨Bears.of_eq this.1, Bears.int this.2.1, Bears.int this.2.2, trivial⟩
  refine ⟨fun h1 => ⟨fun h2 => ?_, fun h2 => (by cases h2)⟩, fun h1 => ⟨fun h2 => E3 (ti_1 (neB h2)) (neB h2), fun h2 => ⟨?_, by kernel_rfl, ?_⟩⟩⟩
  · replace h1 : (stE s == 0 && leB 1099511627776 (s.nth 2).int) = true := h1
    rw [Bool.and_eq_true, beq_iff_eq] at h1
    exact E3 (ti_6 h1.1 h1.2) (by decide)
  all_goals replace h2 : stE s = 0 := eqB h2
  · exact (st_ok h2).1.1
  replace h1 := ti_no h2 h1
  have hok := (st_ok h2).1
  have h8 := hok.1
  have hw := now_wrap hs h2
  refine ⟨{ i : Nat // i ≤ nG s }, 14, fun i => ([(43, .dat i64 (.I i.1)), (42, .dat i64 (.I (nG s))), (5, .ptr 10 workS [] workS), (3, .dat i64 (.I (tickC s i.1))), (2, .ptr 1 storeS [] storeS), (1, .ptr 0 storeS [] storeS)],
    [(10, .box workS (.st [.struct [.slice ringS], storeS] [.st [.slice ringS] [.own 4 ringS], .dat storeS (D.puts storeS s [.fld 2] (.I (now1 s)))])), (4, .grow ringS (tickL s i.1)), (1, .box storeS (.st [.slice ringS, u64, u64, u64] [.cst (Value.slice none 0 0), .dat u64 (D0 u64), .dat u64 (D0 u64), .dat u64 (D0 u64)])), (0, .box storeS (.dat storeS s))]), fun i => nG s - i.1,
    ⟨0, by omega⟩, ⟨[], rfl, ⟨rfl, rfl, rfl, rfl, rfl, rfl, trivial⟩, ⟨?_, gro (tickL_0 s).symm, rfl, rfl, trivial⟩⟩, ?_⟩
  · exact congrArg (fun d => some (VO.box workS (HV.st [.struct [.slice ringS], storeS] [.st [.slice ringS] [.own 4 ringS], .dat storeS (D.puts storeS s [.fld 2] (.I d))]))) hw
  intro x
  obtain ⟨i, hi⟩ := x
  refine ⟨fun h3 => ?_, fun h3 => ?_⟩
  · have hk : i < nG s := ltN h3
    have hidx : 0 ≤ (i : Int) ∧ (i : Int) < ((tickL s i).length : Int) := by rw [tickL_len hi]; omega
    clear h3
    refine ⟨hidx, by kernel_rfl, ?_⟩
    apply Exists.intro
    apply Exists.intro
    apply Exists.intro
    refine And.intro ?_ (And.intro ?_ ?_)
    · exact ⟨hidx, by kernel_rfl, rfl, rfl, rfl⟩
    · refine ⟨by kernel_rfl, ?_⟩
      repeat' first | exact trivial | exact hidx | constructor
      all_goals try kernel_rfl
    · have hev := ti_ev h2 h1 hk
      refine ⟨⟨i + 1, hk⟩, ⟨[], rfl, ⟨slot (i64_1 (n := i) (by omega)), rfl, rfl, slot ?_, rfl, rfl, trivial⟩, ⟨rfl, gro ?_, rfl, rfl, trivial⟩⟩, stepLt hk⟩
      · show IntKind.i64.wrap ((tickC s i : Int) + (if evE ((tickL s i).getD i .Z) (now1 s) (s.nth 3).int ≠ 0 then 0 else (evN ((tickL s i).getD i .Z) (now1 s) (s.nth 3).int : Int))) = ((tickC s (i + 1) : Nat) : Int)
        rw [tickL_at hk]
        exact tickC_1 hok hk hev
      · show (tickL s i).set i (if evE ((tickL s i).getD i .Z) (now1 s) (s.nth 3).int ≠ 0 then D0 ringS else evR ((tickL s i).getD i .Z) (evN ((tickL s i).getD i .Z) (now1 s) (s.nth 3).int)) = tickL s (i + 1)
        rw [tickL_at hk, ite0 hev]; exact tickL_set hk
  · have he : i = nG s := geN hi h3
    subst he
    have hok := ti_ok (ti_0 h2 h1)
    exact ⟨Bears.of_eq hok.1, Bears.int hok.2.1, Bears.int hok.2.2, trivial⟩
theorem tickT_ok : SumOK Try.prog 35 sTick := sumOK_of_vc (c := cTk) ((CtxOK.of (c := ⟨tabT, refsT, [(42, sChk), (55, Rg.sEvict)], [(56, Try.f56), (57, Try.f57)], keep, mpsT⟩) tabTOK refsTOK (.cons checkT_ok (.cons Rg.evict_ok .nil)) (.cons rfl rfl (by decide) (.cons rfl rfl (by decide) .nil)) mpsTOK).withO open_ok) mixed Try.func35 rfl (by decide) @tickT_fun
noncomputable def cTkR : Ctx := ⟨tabT, refsT, [], [], keep, mpsT⟩
end Go.Proofs.Ytpfpgjkbnjnjnaa
