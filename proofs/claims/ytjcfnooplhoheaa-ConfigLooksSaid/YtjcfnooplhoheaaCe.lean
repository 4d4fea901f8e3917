/- Accounts of configurations: the class of a label, what is seen; the first law. -/
import Derived.Test.YtjcfnooplhoheaaCd
namespace Go.Proofs.Ytjcfnooplhoheaa
open Go Go.Vm
set_option linter.unusedSimpArgs false
set_option maxRecDepth 10000
/-- The place of a label's class; the place behind them if there is none. -/
def fl (c : D) (L : Int) : Nat := fi (fun k => if labAt c k = L then 1 else 0) (nC c) 0
def clN (c : D) (L : Int) : Int := if chE c ≠ 0 then 0 else if fl c L < nC c then fl c L else 0
def clX (c : D) (L : Int) : Int := if chE c ≠ 0 then chE c else if fl c L < nC c then 0 else 7
def sClassC : Sum := ⟨[configS, u64], fun _ => none, fun
  | [c, l] => .tup [.dat i64 (.I (clN c l.int)), .dat i64 (.I (clX c l.int))]
  | _ => .und⟩
theorem fl_at {c : D} {L : Int} {i : Nat} (hi : i < nC c) (h : labAt c i = L) (h0 : ∀ k, k < i → labAt c k ≠ L) : fl c L = i :=
  fi_0 hi (fun k hk => if_neg (h0 k hk)) (by simp [h])
theorem fl_none {c : D} {L : Int} (h0 : ∀ k, k < nC c → labAt c k ≠ L) : fl c L = nC c := fi_all fun k hk => if_neg (h0 k hk)
theorem lab_inj {c : D} (h : chE c = 0) : ∀ i j, i < j → j < nC c → labAt c i ≠ labAt c j := fun i j hi hj e => by
  have hd := (ch_ok.1 h).2.1 j hj
  by_cases hb : clBad (clsAt c j) = true
  · rw [clE_2 hb] at hd; cases hd
  · rw [clE_8 (by simpa using hb) (List.any_eq_true.2 ⟨i, by simpa using hi, by simpa using e⟩)] at hd; cases hd
theorem mHas_mPut {k v : D} {L : Int} : ∀ {es : List (D × D)}, mHas L (mPut k v es) = (mHas L es || decide (k.int = L))
  | [] => by simp [mPut, mHas]
  | (k', v') :: es => by
    have ih := mHas_mPut (k := k) (v := v) (L := L) (es := es)
    simp only [mPut]
    by_cases h : k'.int = k.int
    · rw [if_pos h]
      simp only [mHas, h]
      cases decide (k.int = L) <;> simp
    · rw [if_neg h]
      simp only [mHas, ih, Bool.or_assoc]
theorem Class_fun : FunOK cK2 60 Try.f53 sClassC := fun c hc l hl _ => by
  simp only [InR, InRs] at hc
  have hn0 : nC c ≤ 9223372036854775807 := hc.1.1
  clear hc
  refine ⟨fun h1 => ⟨Bears.int ?_, Bears.int ?_, trivial⟩, fun h1 => ?_⟩
  all_goals replace h1 : (chE c != 0) = _ := h1
  all_goals simp only [bne_iff_ne, ne_eq, bne_eq_false_iff_eq] at h1
  · show 0 = clN c l.int
    rw [clN, if_pos h1]
  · show chE c = clX c l.int
    rw [clX, if_pos h1]
  refine ⟨{ x : Nat × List (D × D) // x.1 ≤ nC c ∧ (∀ L, mHas L x.2 = (List.range x.1).any fun k => labAt c k == L) ∧ ∀ k, k < x.1 → (mGet (.I 0) (labAt c k) x.2).int = k }, 3, fun x => ([(25, .dat i64 (.I x.1.1)), (24, .dat i64 (.I (nC c))), (23, .dat (.slice classS) (c.nth 0)), (8, .mp 2 u64 i64), (1, .dat u64 (.I l.int))], [(2, .map u64 i64 x.1.2)]), fun x => nC c - x.1.1,
    ⟨(0, []), by omega, fun L => rfl, fun k h => by omega⟩, ⟨[(2, 1)], rfl, ⟨rfl, rfl, rfl, rfl, rfl, trivial⟩, ⟨rfl, trivial⟩⟩, ?_⟩
  intro x
  obtain ⟨⟨i, es⟩, hi, hm, h0⟩ := x
  simp only at hi hm h0
  have hlt : ltB (i : Int) (nC c : Int) = true → i < nC c := ltN
  have hge : ltB (i : Int) (nC c : Int) = false → i = nC c := geN hi
  refine ⟨fun h2 => ⟨?_, ?_⟩, fun h2 => ⟨fun h3 => ⟨Bears.int ?_, Bears.int ?_, trivial⟩, fun h3 => ⟨Bears.int ?_, Bears.int ?_, trivial⟩⟩⟩
  · have := hlt h2; show 0 ≤ (i : Int) ∧ (i : Int) < (nC c : Int); omega
  · have hk := hlt h2
    refine ⟨⟨(i + 1, mPut (.I (labAt c i)) (.I i) es), by show i + 1 ≤ _; omega, fun L => ?_, fun k hk2 => ?_⟩, ⟨[], rfl, ⟨slot (i64_1 (n := i) (by omega)), rfl, rfl, rfl, rfl, trivial⟩, ⟨rfl, trivial⟩⟩, by show _ - (i + 1) < _ - i; omega⟩
    · show mHas L (mPut (.I (labAt c i)) (.I i) es) = (List.range (i + 1)).any fun k => labAt c k == L
      rw [mHas_mPut, List.range_succ, List.any_append, ← hm]
      by_cases e : labAt c i = L <;> simp [e]
    · show (mGet (.I 0) (labAt c k) (mPut (.I (labAt c i)) (.I i) es)).int = k
      rw [mGet_mPut]
      rcases Nat.lt_or_eq_of_le (Nat.le_of_lt_succ hk2) with h | rfl
      · rw [if_neg (show ¬ (D.I (labAt c i)).int = labAt c k from fun e => lab_inj h1 k i h hk e.symm)]; exact h0 k h
      · rw [if_pos (show (D.I (labAt c k)).int = labAt c k from rfl)]; rfl
  all_goals have e := hge h2
  all_goals subst e
  all_goals replace h3 : (!mHas l.int es) = _ := h3
  all_goals rw [hm] at h3
  · rw [clN, if_neg (by simp [h1])]
    have : fl c l.int = nC c := fl_none fun k hk e => by
      simp only [Bool.not_eq_true', List.any_eq_false, List.mem_range] at h3
      exact h3 k hk (by simp [e])
    show 0 = if fl c l.int < nC c then (fl c l.int : Int) else 0
    rw [if_neg (by omega)]
  · have : fl c l.int = nC c := fl_none fun k hk e => by
      simp only [Bool.not_eq_true', List.any_eq_false, List.mem_range] at h3
      exact h3 k hk (by simp [e])
    show 7 = clX c l.int
    rw [clX, if_neg (by simp [h1]), if_neg (by omega)]
  all_goals simp only [Bool.not_eq_false', List.any_eq_true, List.mem_range, beq_iff_eq] at h3
  all_goals obtain ⟨k, hk, e⟩ := h3
  all_goals have ef : fl c l.int = k := fl_at hk e fun j hj ej => lab_inj h1 j k hj hk (by omega)
  · show (mGet (.I 0) l.int es).int = clN c l.int
    rw [clN, if_neg (by simp [h1]), ef, if_pos hk, ← h0 k hk, e]
  · show 0 = clX c l.int
    rw [clX, if_neg (by simp [h1]), ef, if_pos hk]
theorem ClassR_fun : FunOK cK2 60 Try.f54 sClassC := fun c hc l hl _ => by
  simp only [InR, InRs] at hc
  have hn0 : nC c ≤ 9223372036854775807 := hc.1.1
  clear hc
  refine ⟨fun h1 => ⟨Bears.int ?_, Bears.int ?_, trivial⟩, fun h1 => ?_⟩
  all_goals replace h1 : (chE c != 0) = _ := h1
  all_goals simp only [bne_iff_ne, ne_eq, bne_eq_false_iff_eq] at h1
  · show 0 = clN c l.int
    rw [clN, if_pos h1]
  · show chE c = clX c l.int
    rw [clX, if_pos h1]
  refine ⟨{ i : Nat // i ≤ nC c ∧ ∀ k, k < i → labAt c k ≠ l.int }, 1, fun i => ([(7, .dat i64 (.I i.1)), (2, .ptr 0 configS [] configS), (1, .dat u64 (.I l.int))], [(0, .box configS (.dat configS c))]), fun i => nC c - i.1,
    ⟨0, by omega, fun k h => by omega⟩, ⟨[], rfl, ⟨rfl, rfl, rfl, trivial⟩, ⟨rfl, trivial⟩⟩, ?_⟩
  intro x
  obtain ⟨i, hi, h0⟩ := x
  have hlt : ltB (i : Int) (nC c : Int) = true → i < nC c := ltN
  have hge : ltB (i : Int) (nC c : Int) = false → i = nC c := geN hi
  refine ⟨fun h2 => ⟨?_, fun h3 => ⟨Bears.int ?_, Bears.int ?_, trivial⟩, fun h3 => ?_⟩, fun h2 => ⟨Bears.int ?_, Bears.int ?_, trivial⟩⟩
  · have := hlt h2; show 0 ≤ (i : Int) ∧ (i : Int) < (nC c : Int); omega
  all_goals try replace h3 : (labAt c i == l.int) = _ := h3
  all_goals try simp only [beq_iff_eq, beq_eq_false_iff_ne] at h3
  · have ef := fl_at (hlt h2) h3 h0
    show (i : Int) = clN c l.int
    rw [clN, if_neg (by simp [h1]), ef, if_pos (hlt h2)]
  · have ef := fl_at (hlt h2) h3 h0
    show 0 = clX c l.int
    rw [clX, if_neg (by simp [h1]), ef, if_pos (hlt h2)]
  · have := hlt h2
    exact ⟨⟨i + 1, by omega, upto h0 h3⟩, ⟨[], rfl, ⟨slot (i64_1 (n := i) (by omega)), rfl, rfl, trivial⟩, ⟨rfl, trivial⟩⟩, by show _ - (i + 1) < _ - i; omega⟩
  · have ef := fl_none (c := c) (L := l.int) fun k hk => h0 k (by rw [hge h2]; exact hk)
    show 0 = clN c l.int
    rw [clN, if_neg (by simp [h1]), ef, if_neg (by omega)]
  · have ef := fl_none (c := c) (L := l.int) fun k hk => h0 k (by rw [hge h2]; exact hk)
    show 7 = clX c l.int
    rw [clX, if_neg (by simp [h1]), ef, if_neg (by omega)]
def seeB (c : D) (L : Int) (i : Nat) : Bool := belowB (labAt c i) L
def sSees : Sum := ⟨[configS, u64], fun _ => none, fun
  | [c, l] => .tup [.dat (.slice i64) (.L (if chE c ≠ 0 then [] else pick (seeB c l.int) (nC c))), .dat i64 (.I (chE c))]
  | _ => .und⟩
theorem Sees_fun : FunOK cK2 60 Try.f55 sSees := fun c hc l hl _ => by
  simp only [InR, InRs] at hc
  have hn0 : nC c ≤ 9223372036854775807 := hc.1.1
  clear hc
  refine ⟨fun h1 => ⟨Bears.same ?_, Bears.int rfl, trivial⟩, fun h1 => ?_⟩
  all_goals replace h1 : (chE c != 0) = _ := h1
  · refine eqSame ?_
    show D.L [] = D.L (if chE c ≠ 0 then [] else pick (seeB c l.int) (nC c))
    rw [if_pos (by simpa using h1)]
  simp only [bne_eq_false_iff_eq] at h1
  have h8 : nC c ≤ 8 := nC_le h1
  refine ⟨{ i : Nat // i ≤ nC c }, 4, fun i => ([(22, .dat i64 (.I i.1)), (21, .dat i64 (.I (nC c))), (20, .dat (.slice classS) (c.nth 0)), (8, .own 3 i64), (1, .dat u64 (.I l.int))], [(3, .grow i64 (pick (seeB c l.int) i.1))]), fun i => nC c - i.1,
    ⟨0, by omega⟩, ⟨[(3, 2)], rfl, ⟨rfl, rfl, rfl, rfl, rfl, trivial⟩, ⟨rfl, trivial⟩⟩, ?_⟩
  intro x
  obtain ⟨i, hi⟩ := x
  have hlt : ltB (i : Int) (nC c : Int) = true → i < nC c := ltN
  have hge : ltB (i : Int) (nC c : Int) = false → i = nC c := geN hi
  refine ⟨fun h3 => ⟨?_, fun h2 => ⟨?_, ?_⟩, fun h2 => ?_⟩, fun h3 => ⟨Bears.same ?_, Bears.int ?_, trivial⟩⟩
  · have := hlt h3; show 0 ≤ (i : Int) ∧ (i : Int) < (nC c : Int); omega
  · have := hlt h3; have := pick_len (seeB c l.int) i; show (pick (seeB c l.int) i).length + 1 ≤ 1073741824; omega
  · replace h2 : seeB c l.int i = true := h2
    have := hlt h3
    refine ⟨⟨i + 1, by omega⟩, ⟨[(3, 6)], rfl, ⟨slot (i64_1 (n := i) (by omega)), rfl, rfl, rfl, rfl, trivial⟩, ⟨gro ?_, trivial⟩⟩, by show _ - (i + 1) < _ - i; omega⟩
    show pick (seeB c l.int) i ++ [D.I i] = pick (seeB c l.int) (i + 1)
    rw [pick_succ, if_pos h2]
  · replace h2 : seeB c l.int i = false := h2
    have := hlt h3
    refine ⟨⟨i + 1, by omega⟩, ⟨[], rfl, ⟨slot (i64_1 (n := i) (by omega)), rfl, rfl, rfl, rfl, trivial⟩, ⟨gro ?_, trivial⟩⟩, by show _ - (i + 1) < _ - i; omega⟩
    show pick (seeB c l.int) i = pick (seeB c l.int) (i + 1)
    rw [pick_succ, if_neg (by simp [h2]), List.append_nil]
  · have e := hge h3
    refine eqSame ?_
    show D.L (pick (seeB c l.int) i) = D.L (if chE c ≠ 0 then [] else pick (seeB c l.int) (nC c))
    rw [if_neg (by simp [h1]), e]
  · exact h1.symm
theorem SeesR_fun : FunOK cK2 60 Try.f56 sSees := fun c hc l hl _ => by
  simp only [InR, InRs] at hc
  have hn0 : nC c ≤ 9223372036854775807 := hc.1.1
  clear hc
  refine ⟨{ i : Nat // i ≤ nC c ∧ (chE c ≠ 0 → i = 0) }, 4, fun i => ([(8, .dat i64 (.I i.1)), (7, .own 3 i64), (6, .dat i64 (.I (chE c))), (2, .ptr 0 configS [] configS), (1, .dat u64 (.I l.int))], [(3, .grow i64 (pick (seeB c l.int) i.1)), (0, .box configS (.dat configS c))]), fun i => nC c - i.1,
    ⟨0, by omega, fun _ => rfl⟩, ⟨[(3, 2)], rfl, ⟨rfl, rfl, rfl, rfl, rfl, trivial⟩, ⟨rfl, rfl, trivial⟩⟩, ?_⟩
  intro x
  obtain ⟨i, hi, h0⟩ := x
  have hlt : ltB (i : Int) (nC c : Int) = true → i < nC c := ltN
  have hge : ltB (i : Int) (nC c : Int) = false → i = nC c := geN hi
  refine ⟨fun h1 => ⟨?_, fun h2 => ⟨?_, ?_⟩, fun h2 => ?_⟩, fun h1 => ⟨Bears.same ?_, Bears.int rfl, trivial⟩⟩
  all_goals replace h1 : (ltB (i : Int) (nC c : Int) && chE c == 0) = _ := h1
  all_goals try obtain ⟨h3, h4⟩ := Bool.and_eq_true .. ▸ h1
  all_goals try have h4 := beq_iff_eq.mp h4
  all_goals try have h8 : nC c ≤ 8 := nC_le h4
  · have := hlt h3; show 0 ≤ (i : Int) ∧ (i : Int) < (nC c : Int); omega
  · have := hlt h3; have := pick_len (seeB c l.int) i; show (pick (seeB c l.int) i).length + 1 ≤ 1073741824; omega
  · replace h2 : seeB c l.int i = true := h2
    have := hlt h3
    refine ⟨⟨i + 1, by omega, fun h => absurd h4 h⟩, ⟨[(3, 5)], rfl, ⟨slot (i64_1 (n := i) (by omega)), rfl, rfl, rfl, rfl, trivial⟩, ⟨gro ?_, rfl, trivial⟩⟩, by show _ - (i + 1) < _ - i; omega⟩
    show pick (seeB c l.int) i ++ [D.I i] = pick (seeB c l.int) (i + 1)
    rw [pick_succ, if_pos h2]
  · replace h2 : seeB c l.int i = false := h2
    have := hlt h3
    refine ⟨⟨i + 1, by omega, fun h => absurd h4 h⟩, ⟨[], rfl, ⟨slot (i64_1 (n := i) (by omega)), rfl, rfl, rfl, rfl, trivial⟩, ⟨gro ?_, rfl, trivial⟩⟩, by show _ - (i + 1) < _ - i; omega⟩
    show pick (seeB c l.int) i = pick (seeB c l.int) (i + 1)
    rw [pick_succ, if_neg (by simp [h2]), List.append_nil]
  · refine eqSame ?_
    show D.L (pick (seeB c l.int) i) = D.L (if chE c ≠ 0 then [] else pick (seeB c l.int) (nC c))
    by_cases h4 : chE c = 0
    · rw [if_neg (by simp [h4])]
      simp only [h4, beq_self_eq_true, Bool.and_true] at h1
      rw [hge h1]
    · rw [if_pos h4, h0 h4]; rfl
def ten1 : D := .L [.I 1, .I 1, .I 1, .I 1, .I 1]
def tens : Nat → D
  | 0 => D0 (.arr 6 tenS)
  | n + 1 => D.puts (.arr 6 tenS) (tens n) [.idx n] ten1
def shownC : D := .L [.L [.L [.I 0, .I 4, .I 2], .L [.I 1, .I 8, .I 8], .L [.I 3, .I 1, .I 0]], tens 6, .L [.L [.I 2, .I 3, .I 1, .B true, .I 0, .I (-5), .I 5]], .I 10]
def sShown : Sum := ⟨[], fun _ => none, fun _ => .dat configS shownC⟩
theorem shown_fun : FunOK c0 60 Try.f64 sShown := fun _ => by
  refine ⟨{ i : Nat // i ≤ 6 }, 4, fun i => ([(2, .dat i64 (.I i.1)), (1, .ptr 3 configS [] configS), (0, .ptr 0 configS [] configS)], [(3, .box configS (.st [.slice classS, .arr 6 tenS, .slice ruleS, u64] [.own 1 classS, .dat (.arr 6 tenS) (tens i.1), .own 2 ruleS, .dat u64 (.I 10)])), (2, .grow ruleS (rls shownC)), (1, .grow classS (cls shownC)), (0, .box configS (.st [.slice classS, .arr 6 tenS, .slice ruleS, u64]
    [.cst (Value.slice none 0 0), .dat (.arr 6 tenS) (D0 (.arr 6 tenS)), .cst (Value.slice none 0 0), .dat u64 (D0 u64)]))]), fun i => 6 - i.1,
    ⟨0, by omega⟩, ⟨[], rfl, ⟨rfl, rfl, rfl, trivial⟩, ⟨rfl, rfl, rfl, rfl, trivial⟩⟩, ?_⟩
  intro x
  obtain ⟨i, hi⟩ := x
  have hlt : ltB (i : Int) 6 = true → i < 6 := fun h => by simp only [ltB_true] at h; omega
  have hge : ltB (i : Int) 6 = false → i = 6 := fun h => by simp only [ltB_false] at h; omega
  refine ⟨fun h1 => ⟨?_, ?_⟩, fun h1 => Bears.same (eqSame ?_)⟩
  · have := hlt h1; show 0 ≤ (i : Int) ∧ (i : Int) < ((6 : Nat) : Int); omega
  · have := hlt h1
    exact ⟨⟨i + 1, by omega⟩, ⟨[], rfl, ⟨slot (i64_1 (n := i) (by omega)), rfl, rfl, trivial⟩, ⟨rfl, rfl, rfl, rfl, trivial⟩⟩, by show _ - (i + 1) < _ - i; omega⟩
  · have e := hge h1
    subst e
    rfl
theorem classP_ok : SumOK Try.prog 53 sClassC := sumOK_of_vc (c := cK2) k2OK mixed Try.func53 rfl (by decide) @Class_fun
theorem classR_ok : SumOK Try.prog 54 sClassC := sumOK_of_vc (c := cK2) k2OK mixed Try.func54 rfl (by decide) @ClassR_fun
theorem seesP_ok : SumOK Try.prog 55 sSees := sumOK_of_vc (c := cK2) k2OK mixed Try.func55 rfl (by decide) @Sees_fun
theorem seesR_ok : SumOK Try.prog 56 sSees := sumOK_of_vc (c := cK2) k2OK mixed Try.func56 rfl (by decide) @SeesR_fun
theorem shown_ok : SumOK Try.prog 64 sShown := sumOK_of_vc (c := c0) (ctxOK .nil) mixed Try.func64 rfl (by decide) @shown_fun
def cAwake : Ctx := ⟨tab, refs, [(64, sShown), (51, sCheckC), (53, sClassC), (55, sSees), (20, sSameI)], [], keep, mps⟩
def sTrue : Sum := ⟨[], fun _ => none, fun _ => .dat .bool (.B true)⟩
theorem awake_fun : FunOK cAwake 200 Try.f15 sTrue := fun _ => by
  refine ⟨?_, trivial, Bears.bool ?_⟩
  · show (chE shownC == 0 && clX shownC 1 == 0 && clN shownC 1 == 1 && clX shownC 2 == 7 && chE shownC == 0) = true
    kernel_rfl
  · show (chE shownC == 0 && clX shownC 1 == 0 && clN shownC 1 == 1 && clX shownC 2 == 7 && chE shownC == 0 && sameI (if chE shownC ≠ 0 then [] else pick (seeB shownC 1) (nC shownC)) [.I 0, .I 1]) = true
    kernel_rfl
theorem awake_ok : SumOK Try.prog 15 sTrue := sumOK_of_vc (c := cAwake) (ctxOK (.cons shown_ok (.cons check_ok (.cons classP_ok (.cons seesP_ok (.cons sameInts_ok .nil)))))) mixed Try.func15 rfl (by decide) @awake_fun
def cTenants : Ctx := ⟨tab, refs, [(14, sLight), (15, sTrue), (16, sTenant), (17, sTenant), (18, sRules), (19, sRules), (20, sSameI), (21, sSameC), (22, sSameC)], [], keep, mps⟩
theorem eqTen (d : D) : eqD tenS d d = true := by simp [eqD, eqDs]
theorem sameI_rfl (l : List D) : sameI l l = true := by
  rw [sameI, all_range (fun k _ => beq_self_eq_true _)]; simp
theorem sameL_rfl {s : Sh} (h : ∀ d, eqD s d d = true) (l : List D) : sameL s l l = true := sameL_t rfl fun _ _ => h _
theorem sameC_rfl (c : D) : sameC c c = true := by
  rw [sameC, sameL_rfl (fun d => by simp [eqD, eqDs]), sameL_rfl (fun d => by simp [eqD, eqDs])]
  simp [eqD, eqDs]
def sLawT : Sum := ⟨[configS, configS, i64], fun _ => none, fun _ => .dat .bool (.B true)⟩
theorem tenants_law : FunOK cTenants 80 Try.f3 sLawT := fun a ha b hb t ht _ => by
  refine ⟨fun h1 => Bears.bool rfl, fun h1 => ⟨by kernel_rfl, Bears.bool ?_⟩⟩
  show (eqD tenS (tnGet a t.int) (tnGet a t.int) && tnErr a t.int == tnErr a t.int && sameI (if tnErr a t.int ≠ 0 then [] else pick (ownB a t.int) (nR a)) (if tnErr a t.int ≠ 0 then [] else pick (ownB a t.int) (nR a)) && tnErr a t.int == tnErr a t.int && sameC a b == sameC a b && sameC a a && true) = true
  simp only [eqTen, beq_self_eq_true, sameI_rfl, sameC_rfl, Bool.and_self]
theorem tenantsLaw_ok : SumOK Try.prog 3 sLawT := sumOK_of_vc (c := cTenants) (ctxOK (.cons light_ok (.cons awake_ok (.cons tenantP_ok (.cons tenantR_ok (.cons rulesP_ok (.cons rulesR_ok (.cons sameInts_ok (.cons same_ok (.cons sameR_ok .nil)))))))))) mixed Try.func3 rfl (by decide) @tenants_law
end Go.Proofs.Ytjcfnooplhoheaa
