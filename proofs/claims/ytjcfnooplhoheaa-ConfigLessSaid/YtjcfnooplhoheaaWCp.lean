/- Accounts of quotas: the examples, and what is made of numbers. Accounts of configurations that are made of numbers. What is right of a configuration that is made of a number. Accounts of quotas that are made of numbers, and their laws. -/
import Derived.Test.YtjcfnooplhoheaaWCj
namespace Go.Proofs.Ytjcfnooplhoheaa
open Go Go.Vm
set_option linter.unusedSimpArgs false
set_option maxRecDepth 10000
def cQKn : Ctx := ⟨tab, refs, [(45, sShownQ), (31, sQClass), (20, sSameI), (46, sRates), (47, sUsed), (24, sTrue), (39, sLeft), (37, sMay), (41, sTot), (43, sSeen), (34, sQk)], [], keep, mps⟩
theorem knownQ_fun : FunOK cQKn 200 Try.f6 sTrue := fun _ => by
  refine ⟨?_, trivial, ?_, trivial, ?_, trivial, ?_, trivial, ?_, trivial, ?_, trivial, ?_, trivial, ?_, trivial, ?_, trivial, Bears.bool ?_⟩
  all_goals show _ = true
  all_goals kernel_rfl
def modI (a n : Int) : Int := if ltB n 1 then 0 else if ltB (a.tmod n) 0 then IntKind.i64.wrap (a.tmod n + n) else a.tmod n
def sMod : Sum := ⟨[i64, i64], fun _ => none, fun
  | [a, n] => .dat i64 (.I (modI a.int n.int))
  | _ => .und⟩
theorem mod_fun : FunOK c0 40 Try.f49 sMod := fun a _ n _ _ => by
  refine ⟨fun h1 => Bears.int ?_, fun h1 => ⟨?_, fun h2 => Bears.int ?_, fun h2 => Bears.int ?_⟩⟩
  all_goals replace h1 : ltB n.int 1 = _ := h1
  · show 0 = modI a.int n.int
    simp [modI, h1]
  · simp only [ltB_false] at h1
    show n.int ≠ 0
    omega
  all_goals replace h2 : ltB (a.int.tmod n.int) 0 = _ := h2
  · show IntKind.i64.wrap (a.int.tmod n.int + n.int) = modI a.int n.int
    simp only [modI, h1, h2]; rfl
  · show a.int.tmod n.int = modI a.int n.int
    simp only [modI, h1, h2]; rfl
theorem modI_range {a n : Int} (h : 1 ≤ n) (h2 : n ≤ 9223372036854775807) : 0 ≤ modI a n ∧ modI a n < n := by
  have h1 : ltB n 1 = false := by simp only [ltB_false]; exact h
  have a1 := Int.tmod_lt_of_pos a (show 0 < n by omega)
  have a2 : -n < a.tmod n := by
    have := Int.tmod_lt_of_pos (-a) (show 0 < n by omega)
    rw [Int.neg_tmod] at this; omega
  simp only [modI, h1, Bool.false_eq_true, if_false]
  by_cases h3 : ltB (a.tmod n) 0 = true
  · rw [if_pos h3]
    simp only [ltB_true] at h3
    rw [wrap_i64 (by omega) (by omega)]; omega
  · rw [if_neg h3]
    simp only [ltB_true] at h3
    omega
theorem mod_ok : SumOK Try.prog 49 sMod := sumOK_of_vc (c := c0) (ctxOK .nil) mixed Try.func49 rfl (by decide) @mod_fun
def labs5 : List D := [.I 0, .I 1, .I 2, .I 3, .I 5]
def sLabels : Sum := ⟨[], fun _ => none, fun _ => .dat (.slice u64) (.L labs5)⟩
theorem labels5_fun : FunOK c0 40 Try.f50 sLabels := fun _ => by
  exact Bears.same (eqSame rfl)
theorem labels5_ok : SumOK Try.prog 50 sLabels := sumOK_of_vc (c := c0) (ctxOK .nil) mixed Try.func50 rfl (by decide) @labels5_fun
theorem knownQ_ok : SumOK Try.prog 6 sTrue := sumOK_of_vc (c := cQKn) (ctxOK (.cons shownQ_ok (.cons qClass_ok (.cons sameInts_ok (.cons rates_ok (.cons used_ok (.cons awakeQ_ok (.cons left_ok (.cons may_ok (.cons tot_ok (.cons seen_ok (.cons qCheck_ok .nil)))))))))))) mixed Try.func6 rfl (by decide) @knownQ_fun
end Go.Proofs.Ytjcfnooplhoheaa

namespace Go.Proofs.Ytjcfnooplhoheaa
open Go Go.Vm
set_option linter.unusedSimpArgs false
set_option maxRecDepth 10000
def cCfg : Ctx := ⟨tab, refs, [(49, sMod), (50, sLabels)], [], keep, mps⟩
abbrev w (n : Int) : Int := IntKind.i64.wrap n
/-- A class, a tenant and a rule of a configuration that is made of the number K. -/
def clR (K : Int) (i : Nat) : D := .L [.I (labs5.getD i .Z).int, .I (w (1 + (w (w (K.tdiv 4) + w (3 * i))).tmod 7)), .I (w (1 + (w (w (K.tdiv 28) + i)).tmod 5))]
def clsR (K : Int) (n : Nat) : List D := tbl (clR K) n
theorem clsR_len (K : Int) (n : Nat) : (clsR K n).length = n := tbl_len _ n
def tnR (K : Int) (t : Nat) : D := .L [.I (w (1 + (w (w (K.tdiv 140) + t)).tmod 9)), .I (w (1 + (w (w (K.tdiv 1260) + t)).tmod 3)), .I ([D.I 64, .I 8, .I 3, .I 20].getD ((w (w (K.tdiv 3780) + t)).tmod 4).toNat .Z).int,
  .I ([D.I 64, .I 5, .I 2, .I 12].getD ((w (w (K.tdiv 15120) + t)).tmod 4).toNat .Z).int, .I ([D.I 64, .I 2, .I 9].getD ((w (w (K.tdiv 60480) + t)).tmod 3).toNat .Z).int]
def hoR (K : Int) : Int := IntKind.u64.wrap (w (1 + (w (K.tdiv 181440)).tmod 12))
/-- What a rule is made of; N: how many classes there are. -/
def jR (J : Int) (i : Nat) : Int := (w (w (J.tdiv 5) + w (7 * i))).tmod 1000
def frR (J : Int) (N i : Nat) : Int := (jR J i).tmod N
def anyR (J : Int) (i : Nat) : Bool := (w ((jR J i).tdiv 160)).tmod 2 == 0
def ruR0 (J : Int) (N i : Nat) : D := .L [.I (w (1 + (w ((jR J i).tdiv 5)).tmod 4)), .I (bitsOp .or .u64 (labs5.getD (frR J N i).toNat .Z).int (IntKind.u64.wrap ((w ((jR J i).tdiv 20)).tmod 2))),
  .I (bitsOp .and .u64 (labs5.getD (frR J N i).toNat .Z).int (IntKind.u64.wrap ((w ((jR J i).tdiv 40)).tmod 4))), .B (anyR J i), D0 i64, .I (-5), .I (w (3 + w ((jR J i).tdiv 320)))]
def ruR (J : Int) (N i : Nat) : D := if anyR J i = true then ruR0 J N i else D.puts ruleS (ruR0 J N i) [.fld 4] (.I ((w ((jR J i).tdiv 7)).tmod 3))
def rlsR (J : Int) (N n : Nat) : List D := tbl (ruR J N) n
theorem rlsR_len (J : Int) (N n : Nat) : (rlsR J N n).length = n := tbl_len _ n
theorem rlsR_succ (J : Int) (N n : Nat) : rlsR J N (n + 1) = rlsR J N n ++ [ruR J N n] := rfl
theorem set_last (l : List D) (a b : D) : (l ++ [a]).set l.length b = l ++ [b] := by simp
theorem get_last (l : List D) (a : D) : (l ++ [a]).getD l.length .Z = a := by simp
def cfgM (J : Int) : Nat := (J.tmod 5).toNat
theorem w_ok {n : Int} (h1 : -9223372036854775808 ≤ n) (h2 : n ≤ 9223372036854775807) : w n = n := wrap_i64 h1 h2
/-- A place that is reckoned lies within. -/
theorem mod_ix {K : Int} (k0 : 0 ≤ K) (k1 : K < 1099511627776) (d : Int) (d1 : 1 ≤ d) (t : Nat) (ht : t < 1000) (m : Int) (m1 : 1 ≤ m) : 0 ≤ (w (w (K.tdiv d) + t)).tmod m ∧ (w (w (K.tdiv d) + t)).tmod m < m := by
  have h1 : 0 ≤ K.tdiv d := Int.tdiv_nonneg k0 (by omega)
  have h2 : K.tdiv d ≤ K := Int.tdiv_le_self d k0
  rw [w_ok (n := K.tdiv d) (by omega) (by omega), w_ok (by omega) (by omega)]
  rw [Int.tmod_eq_emod_of_nonneg (by omega)]
  exact ⟨Int.emod_nonneg _ (by omega), Int.emod_lt_of_pos _ (by omega)⟩
def tnsR (K : Int) : Nat → D
  | 0 => D0 (.arr 6 tenS)
  | n + 1 => D.puts (.arr 6 tenS) (tnsR K n) [.idx n] (tnR K n)
def cfgN (K : Int) : Nat := (2 + K.tmod 4).toNat
abbrev fS : List Sh := [.slice classS, .arr 6 tenS, .slice ruleS, u64]
abbrev nilS : HV := .cst (Value.slice none 0 0)
def cfgO : VO := .box configS (.st fS [nilS, .dat (.arr 6 tenS) (D0 (.arr 6 tenS)), nilS, .dat u64 (D0 u64)])
def cfg1 (K : Int) : Nat → Env × Hp
  | 0 => ([(6, .dat i64 (.I 0)), (5, .dat (.slice u64) (.L labs5)), (4, .ptr 1 configS [] configS), (3, .dat i64 (.I K)), (2, .ptr 0 configS [] configS)], [(1, .box configS (.st fS [nilS, .dat (.arr 6 tenS) (D0 (.arr 6 tenS)), nilS, .dat u64 (D0 u64)])), (0, cfgO)])
  | i + 1 => ([(6, .dat i64 (.I (i + 1 : Nat))), (5, .dat (.slice u64) (.L labs5)), (4, .ptr 1 configS [] configS), (3, .dat i64 (.I K)), (2, .ptr 0 configS [] configS)], [(1, .box configS (.st fS [.own 2 classS, .dat (.arr 6 tenS) (D0 (.arr 6 tenS)), nilS, .dat u64 (D0 u64)])), (2, .grow classS (clsR K (i + 1))), (0, cfgO)])
def cfgJ (K : Int) : Int := w (K.tdiv 2177280)
def cfgL (K : Int) : Nat := (clsR K (cfgN K)).length
def cfgK (n : Int) : Int := modI n 1099511627776
/-- The configuration that is made of a number. -/
def cfgD (K : Int) : D := .L [.L (clsR K (cfgN K)), tnsR K 6, .L (rlsR (cfgJ K) (cfgL K) (cfgM (cfgJ K))), .I (hoR K)]
def sCfg : Sum := ⟨[i64], fun _ => none, fun
  | [n] => .dat configS (cfgD (cfgK n.int))
  | _ => .und⟩
theorem cfgK_range (n : Int) : 0 ≤ cfgK n ∧ cfgK n < 1099511627776 := modI_range (by omega) (by omega)
theorem cfgN_range {K : Int} (k0 : 0 ≤ K) : 2 ≤ cfgN K ∧ cfgN K ≤ 5 := by
  rw [cfgN, Int.tmod_eq_emod_of_nonneg k0]; omega
theorem cfgJ_range {K : Int} (k0 : 0 ≤ K) (k1 : K < 1099511627776) : 0 ≤ cfgJ K ∧ cfgJ K < 1099511627776 := by
  have h1 : 0 ≤ K.tdiv 2177280 := Int.tdiv_nonneg k0 (by omega)
  have h2 : K.tdiv 2177280 ≤ K := Int.tdiv_le_self _ k0
  rw [cfgJ, w_ok (by omega) (by omega)]; omega
theorem jR_range {J : Int} (j0 : 0 ≤ J) (j1 : J < 1099511627776) {i : Nat} (hi : i < 5) : 0 ≤ jR J i ∧ jR J i < 1000 := by
  have h1 : 0 ≤ J.tdiv 5 := Int.tdiv_nonneg j0 (by omega)
  have h2 : J.tdiv 5 ≤ J := Int.tdiv_le_self _ j0
  rw [jR, w_ok (n := J.tdiv 5) (by omega) (by omega), w_ok (n := 7 * (i : Int)) (by omega) (by omega), w_ok (by omega) (by omega), Int.tmod_eq_emod_of_nonneg (by omega)]
  omega
theorem frR_range {J : Int} (j0 : 0 ≤ J) (j1 : J < 1099511627776) {i : Nat} (hi : i < 5) {N : Nat} (n1 : 1 ≤ N) : 0 ≤ frR J N i ∧ frR J N i < N := by
  have := jR_range j0 j1 hi
  rw [frR, Int.tmod_eq_emod_of_nonneg (by omega)]
  exact ⟨Int.emod_nonneg _ (by omega), Int.emod_lt_of_pos _ (by omega)⟩
theorem rlsR_put {J : Int} {N i : Nat} (h : anyR J i = false) : (rlsR J N i ++ [ruR0 J N i]).set i (D.puts ruleS ((rlsR J N i ++ [ruR0 J N i]).getD i .Z) [.fld 4] (.I ((w ((jR J i).tdiv 7)).tmod 3))) = rlsR J N (i + 1) := by
  have e1 := get_last (rlsR J N i) (ruR0 J N i)
  rw [rlsR_len] at e1
  rw [e1]
  have e2 := set_last (rlsR J N i) (ruR0 J N i) (D.puts ruleS (ruR0 J N i) [.fld 4] (.I ((w ((jR J i).tdiv 7)).tmod 3)))
  rw [rlsR_len] at e2
  rw [e2, rlsR_succ, ruR, if_neg (by simp [h])]
theorem rlsR_app {J : Int} {N i : Nat} (h : anyR J i = true) : rlsR J N i ++ [ruR0 J N i] = rlsR J N (i + 1) := by rw [rlsR_succ, ruR, if_pos h]
theorem any_last {J : Int} {N i : Nat} {b : Bool} (h : (!(((rlsR J N i ++ [ruR0 J N i]).getD i .Z).nth 3).bool) = b) : anyR J i = !b := by
  have e1 := get_last (rlsR J N i) (ruR0 J N i)
  rw [rlsR_len] at e1
  rw [e1] at h
  rw [← h]
  show anyR J i = !!anyR J i
  rw [Bool.not_not]
def cfg3 (K J : Int) : Nat → Env × Hp
  | 0 => ([(8, .dat i64 (.I 0)), (5, .dat (.slice u64) (.L labs5)), (4, .ptr 1 configS [] configS), (3, .dat i64 (.I J)), (2, .ptr 0 configS [] configS)], [(1, .box configS (.st fS [.own 2 classS, .dat (.arr 6 tenS) (tnsR K 6), nilS, .dat u64 (.I (hoR K))])), (2, .grow classS (clsR K (cfgN K))), (0, cfgO)])
  | i + 1 => ([(8, .dat i64 (.I (i + 1 : Nat))), (5, .dat (.slice u64) (.L labs5)), (4, .ptr 1 configS [] configS), (3, .dat i64 (.I J)), (2, .ptr 0 configS [] configS)], [(1, .box configS (.st fS [.own 2 classS, .dat (.arr 6 tenS) (tnsR K 6), .own 3 ruleS, .dat u64 (.I (hoR K))])), (2, .grow classS (clsR K (cfgN K))), (3, .grow ruleS (rlsR J (clsR K (cfgN K)).length (i + 1))), (0, cfgO)])
theorem cfg_fun : FunOK cCfg 200 Try.f66 sCfg := fun n hn _ => by
  obtain ⟨K, hK⟩ : ∃ K, K = cfgK n.int := ⟨_, rfl⟩
  obtain ⟨k0, k1⟩ : 0 ≤ K ∧ K < 1099511627776 := hK ▸ cfgK_range _
  have hN : cfgN K = (2 + K.tmod 4).toNat ∧ IntKind.i64.wrap (2 + K.tmod 4) = 2 + K.tmod 4 ∧ 0 ≤ K.tmod 4 ∧ K.tmod 4 < 4 := by
    rw [Int.tmod_eq_emod_of_nonneg k0]
    refine ⟨by rw [cfgN, Int.tmod_eq_emod_of_nonneg k0], wrap_i64 (by omega) (by omega), by omega, by omega⟩
  have hlt : ∀ i : Nat, ltB (i : Int) (IntKind.i64.wrap (2 + K.tmod 4)) = true → i < cfgN K := fun i h => by
    rw [hN.2.1] at h; simp only [ltB_true] at h; omega
  have hge : ∀ i : Nat, i ≤ cfgN K → ltB (i : Int) (IntKind.i64.wrap (2 + K.tmod 4)) = false → i = cfgN K := fun i hi h => by
    rw [hN.2.1] at h; simp only [ltB_false] at h; omega
  refine ⟨{ i : Nat // i ≤ cfgN K }, 3, fun i => cfg1 K i.1, fun i => cfgN K - i.1, ⟨0, by omega⟩, ⟨[], rfl, ⟨rfl, rfl, rfl, slot hK.symm, rfl, trivial⟩, ⟨rfl, rfl, trivial⟩⟩, ?_⟩
  intro x
  obtain ⟨i, hi⟩ := x
  cases i with
  | zero =>
    refine ⟨ne0 rfl, fun h1 => ⟨?_, ne0 rfl, ne0 rfl, ne0 rfl, ne0 rfl, ?_, by kernel_rfl, ⟨⟨1, hlt 0 h1⟩, ⟨[(2, 46)], rfl, ⟨rfl, rfl, rfl, rfl, rfl, trivial⟩, ⟨rfl, rfl, rfl, trivial⟩⟩, ?_⟩⟩, fun h1 => ?_⟩
    · show 0 ≤ (0 : Int) ∧ (0 : Int) < 5
      decide
    · show 1 ≤ 1073741824
      decide
    · have := hlt 0 h1
      show cfgN K - 1 < cfgN K - 0
      omega
    · have := hge 0 hi h1
      omega
  | succ i =>
    refine ⟨ne0 rfl, fun h1 => ⟨?_, ne0 rfl, ne0 rfl, ne0 rfl, ne0 rfl, ?_, by kernel_rfl, ⟨⟨i + 2, hlt (i + 1) h1⟩, ⟨[(2, 45)], rfl, ⟨slot (i64_1 (n := i + 1) (by omega)), rfl, rfl, rfl, rfl, trivial⟩, ⟨rfl, rfl, rfl, trivial⟩⟩, ?_⟩⟩, fun h1 => ?_⟩
    · have := hlt (i + 1) h1
      show 0 ≤ ((i + 1 : Nat) : Int) ∧ ((i + 1 : Nat) : Int) < 5
      omega
    · show (clsR K (i + 1)).length + 1 ≤ 1073741824
      rw [clsR_len]; omega
    · have := hlt (i + 1) h1
      show cfgN K - (i + 2) < cfgN K - (i + 1)
      omega
    have hN1 := hge (i + 1) hi h1
    clear h1 hge hlt
    refine ⟨{ t : Nat // t ≤ 6 }, 3, fun t => ([(7, .dat i64 (.I t.1)), (5, .dat (.slice u64) (.L labs5)), (4, .ptr 1 configS [] configS), (3, .dat i64 (.I K)), (2, .ptr 0 configS [] configS)], [(1, .box configS (.st fS [.own 2 classS, .dat (.arr 6 tenS) (tnsR K t.1), nilS, .dat u64 (D0 u64)])), (2, .grow classS (clsR K (cfgN K))), (0, cfgO)]), fun t => 6 - t.1, ⟨0, by omega⟩, ⟨[], rfl, ⟨rfl, rfl, rfl, rfl, rfl, trivial⟩, ⟨rfl, gro (by rw [hN1]), rfl, trivial⟩⟩, ?_⟩
    intro x
    obtain ⟨t, ht⟩ := x
    have hlt : ltB (t : Int) 6 = true → t < 6 := fun h => by simp only [ltB_true] at h; omega
    have hge : ltB (t : Int) 6 = false → t = 6 := fun h => by simp only [ltB_false] at h; omega
    refine ⟨fun h1 => ⟨ne0 rfl, ne0 rfl, ne0 rfl, ne0 rfl, ne0 rfl, ne0 rfl, mod_ix k0 k1 _ (by decide) t (by omega) _ (by decide), ne0 rfl, ne0 rfl, mod_ix k0 k1 _ (by decide) t (by omega) _ (by decide), ne0 rfl, ne0 rfl, mod_ix k0 k1 _ (by decide) t (by omega) _ (by decide), ix (hlt h1), by kernel_rfl,
      ⟨⟨t + 1, hlt h1⟩, ⟨[], rfl, ⟨slot (i64_1 (n := t) (by omega)), rfl, rfl, rfl, rfl, trivial⟩, ⟨rfl, rfl, rfl, trivial⟩⟩, by have := hlt h1; show 6 - (t + 1) < 6 - t; omega⟩⟩, fun h1 => ⟨ne0 rfl, ne0 rfl, ne0 rfl, ?_⟩⟩
    have e := hge h1
    subst e
    clear h1 hge hlt
    obtain ⟨J, hJ⟩ : ∃ J, J = cfgJ K := ⟨_, rfl⟩
    obtain ⟨j0, j1⟩ : 0 ≤ J ∧ J < 1099511627776 := hJ ▸ cfgJ_range k0 k1
    obtain ⟨n1, n2⟩ := cfgN_range k0
    have hL : (clsR K (cfgN K)).length = cfgN K := clsR_len _ _
    have hM : cfgM J < 5 ∧ (cfgM J : Int) = J.tmod 5 := by
      rw [cfgM, Int.tmod_eq_emod_of_nonneg j0]; omega
    have hlt : ∀ i : Nat, ltB (i : Int) (J.tmod 5) = true → i < cfgM J := fun i h => by simp only [ltB_true] at h; omega
    have hge : ∀ i : Nat, i ≤ cfgM J → ltB (i : Int) (J.tmod 5) = false → i = cfgM J := fun i hi h => by simp only [ltB_false] at h; omega
    refine ⟨{ i : Nat // i ≤ cfgM J }, 4, fun i => cfg3 K J i.1, fun i => cfgM J - i.1, ⟨0, by omega⟩, ⟨[], rfl, ⟨rfl, rfl, rfl, slot hJ.symm, rfl, trivial⟩, ⟨rfl, rfl, rfl, trivial⟩⟩, ?_⟩
    intro x
    obtain ⟨i, hi⟩ := x
    cases i with
    | zero =>
      have hfr : ltB (((0 : Nat) : Nat) : Int) (J.tmod 5) = true → 0 ≤ frR J (clsR K (cfgN K)).length 0 ∧ frR J (clsR K (cfgN K)).length 0 < ((5 : Nat) : Int) := fun h1 => by
        have := hlt 0 h1
        have := frR_range j0 j1 (i := 0) (by omega) (N := (clsR K (cfgN K)).length) (by omega)
        omega
      refine ⟨ne0 rfl, fun h1 => ⟨ne0 rfl, ne0 rfl, ?_, ne0 rfl, ne0 rfl, hfr h1, ne0 rfl, ne0 rfl, hfr h1, ne0 rfl, ne0 rfl, ne0 rfl, ne0 rfl, ne0 rfl, ?_, by kernel_rfl, ?_, fun h2 => ⟨ne0 rfl, ne0 rfl, ?_, ?_⟩, fun h2 => ?_⟩, fun h1 => Bears.same (eqSame ?_)⟩
      · show ((clsR K (cfgN K)).length : Int) ≠ 0
        omega
      · have := hlt 0 h1
        show (rlsR J (clsR K (cfgN K)).length 0).length + 1 ≤ 1073741824
        rw [rlsR_len]; omega
      · have := hlt 0 h1
        show 0 ≤ (((0 : Nat) : Nat) : Int) ∧ (((0 : Nat) : Nat) : Int) < ((rlsR J (clsR K (cfgN K)).length 0 ++ [ruR0 J (clsR K (cfgN K)).length 0]).length : Int)
        rw [List.length_append, rlsR_len]
        simp only [List.length_singleton]
        omega
      · have := hlt 0 h1
        show 0 ≤ (((0 : Nat) : Nat) : Int) ∧ (((0 : Nat) : Nat) : Int) < ((rlsR J (clsR K (cfgN K)).length 0 ++ [ruR0 J (clsR K (cfgN K)).length 0]).length : Int)
        rw [List.length_append, rlsR_len]
        simp only [List.length_singleton]
        omega
      · have := hlt 0 h1
        exact ⟨⟨0 + 1, this⟩, ⟨[(3, 71)], rfl, ⟨rfl, rfl, rfl, rfl, rfl, trivial⟩, ⟨rfl, rfl, gro (rlsR_put (J := J) (N := (clsR K (cfgN K)).length) (i := 0) (any_last (J := J) (N := (clsR K (cfgN K)).length) (i := 0) h2)), rfl, trivial⟩⟩, by show cfgM J - (0 + 1) < cfgM J - 0; omega⟩
      · have := hlt 0 h1
        exact ⟨⟨0 + 1, this⟩, ⟨[(3, 71)], rfl, ⟨rfl, rfl, rfl, rfl, rfl, trivial⟩, ⟨rfl, rfl, gro (rlsR_app (J := J) (N := (clsR K (cfgN K)).length) (i := 0) (any_last (J := J) (N := (clsR K (cfgN K)).length) (i := 0) h2)), rfl, trivial⟩⟩, by show cfgM J - (0 + 1) < cfgM J - 0; omega⟩
      · have e := hge 0 hi h1
        show D.L [D.L (clsR K (cfgN K)), tnsR K 6, D.L (rlsR J (clsR K (cfgN K)).length 0), D.I (hoR K)] = cfgD (cfgK n.int)
        rw [← hK, cfgD, ← hJ, ← e]; rfl
    | succ i =>
      have hfr : ltB (((i + 1) : Nat) : Int) (J.tmod 5) = true → 0 ≤ frR J (clsR K (cfgN K)).length (i + 1) ∧ frR J (clsR K (cfgN K)).length (i + 1) < ((5 : Nat) : Int) := fun h1 => by
        have := hlt (i + 1) h1
        have := frR_range j0 j1 (i := (i + 1)) (by omega) (N := (clsR K (cfgN K)).length) (by omega)
        omega
      refine ⟨ne0 rfl, fun h1 => ⟨ne0 rfl, ne0 rfl, ?_, ne0 rfl, ne0 rfl, hfr h1, ne0 rfl, ne0 rfl, hfr h1, ne0 rfl, ne0 rfl, ne0 rfl, ne0 rfl, ne0 rfl, ?_, by kernel_rfl, ?_, fun h2 => ⟨ne0 rfl, ne0 rfl, ?_, ?_⟩, fun h2 => ?_⟩, fun h1 => Bears.same (eqSame ?_)⟩
      · show ((clsR K (cfgN K)).length : Int) ≠ 0
        omega
      · have := hlt (i + 1) h1
        show (rlsR J (clsR K (cfgN K)).length (i + 1)).length + 1 ≤ 1073741824
        rw [rlsR_len]; omega
      · have := hlt (i + 1) h1
        show 0 ≤ (((i + 1) : Nat) : Int) ∧ (((i + 1) : Nat) : Int) < ((rlsR J (clsR K (cfgN K)).length (i + 1) ++ [ruR0 J (clsR K (cfgN K)).length (i + 1)]).length : Int)
        rw [List.length_append, rlsR_len]
        simp only [List.length_singleton]
        omega
      · have := hlt (i + 1) h1
        show 0 ≤ (((i + 1) : Nat) : Int) ∧ (((i + 1) : Nat) : Int) < ((rlsR J (clsR K (cfgN K)).length (i + 1) ++ [ruR0 J (clsR K (cfgN K)).length (i + 1)]).length : Int)
        rw [List.length_append, rlsR_len]
        simp only [List.length_singleton]
        omega
      · have := hlt (i + 1) h1
        exact ⟨⟨(i + 1) + 1, this⟩, ⟨[(3, 70)], rfl, ⟨slot (i64_1 (n := i + 1) (by omega)), rfl, rfl, rfl, rfl, trivial⟩, ⟨rfl, rfl, gro (rlsR_put (J := J) (N := (clsR K (cfgN K)).length) (i := i + 1) (any_last (J := J) (N := (clsR K (cfgN K)).length) (i := i + 1) h2)), rfl, trivial⟩⟩, by show cfgM J - ((i + 1) + 1) < cfgM J - (i + 1); omega⟩
      · have := hlt (i + 1) h1
        exact ⟨⟨(i + 1) + 1, this⟩, ⟨[(3, 70)], rfl, ⟨slot (i64_1 (n := i + 1) (by omega)), rfl, rfl, rfl, rfl, trivial⟩, ⟨rfl, rfl, gro (rlsR_app (J := J) (N := (clsR K (cfgN K)).length) (i := i + 1) (any_last (J := J) (N := (clsR K (cfgN K)).length) (i := i + 1) h2)), rfl, trivial⟩⟩, by show cfgM J - ((i + 1) + 1) < cfgM J - (i + 1); omega⟩
      · have e := hge (i + 1) hi h1
        show D.L [D.L (clsR K (cfgN K)), tnsR K 6, D.L (rlsR J (clsR K (cfgN K)).length (i + 1)), D.I (hoR K)] = cfgD (cfgK n.int)
        rw [← hK, cfgD, ← hJ, ← e]; rfl
theorem cfg_ok : SumOK Try.prog 66 sCfg := sumOK_of_vc (c := cCfg) (ctxOK (.cons mod_ok (.cons labels5_ok .nil))) mixed Try.func66 rfl (by decide) @cfg_fun
end Go.Proofs.Ytjcfnooplhoheaa

namespace Go.Proofs.Ytjcfnooplhoheaa
open Go Go.Vm
set_option linter.unusedSimpArgs false
set_option maxRecDepth 10000
theorem tnsR_get (K : Int) : ∀ {n i : Nat}, i < n → (tnsR K n).nth i = tnR K i
  | n + 1, i, h => by
    rw [tnsR, D.puts_idx]
    simp only [D.nth_F, D.puts_nil]
    by_cases e : i = n
    · rw [if_pos e, e]
    · rw [if_neg e, tnsR_get K (by omega)]
theorem cfg_nC (K : Int) : nC (cfgD K) = cfgN K := clsR_len _ _
theorem cfg_nR (K : Int) : nR (cfgD K) = cfgM (cfgJ K) := rlsR_len _ _ _
theorem cfg_cls {K : Int} {i : Nat} (h : i < cfgN K) : clsAt (cfgD K) i = clR K i := tbl_get _ h
theorem cfg_rls {K : Int} {i : Nat} (h : i < cfgM (cfgJ K)) : rlsAt (cfgD K) i = ruR (cfgJ K) (cfgN K) i := by
  have : rlsAt (cfgD K) i = ruR (cfgJ K) (cfgL K) i := tbl_get _ h
  rw [this, cfgL, clsR_len]
def labI (i : Nat) : Int := (labs5.getD i .Z).int
theorem cfg_lab {K : Int} {i : Nat} (h : i < cfgN K) : labAt (cfgD K) i = labI i := by rw [labAt, cfg_cls h]; rfl
section
variable {K : Int} (k0 : 0 ≤ K) (k1 : K < 1099511627776)
include k0 k1
/-- 1 + (K / d + i) % m lies in 1..m. -/
theorem one_mod (d : Int) (d1 : 1 ≤ d) (t : Int) (t0 : 0 ≤ t) (ht : t < 1000) (m : Int) (m1 : 1 ≤ m) (m2 : m < 1000) : 1 ≤ w (1 + (w (w (K.tdiv d) + t)).tmod m) ∧ w (1 + (w (w (K.tdiv d) + t)).tmod m) ≤ m := by
  have h := mod_ix k0 k1 d d1 t.toNat (by omega) m m1
  rw [show ((t.toNat : Nat) : Int) = t by omega] at h
  rw [w_ok (n := 1 + (w (w (K.tdiv d) + t)).tmod m) (by omega) (by omega)]
  omega
theorem cfg_size {i : Nat} (h : i < cfgN K) : 1 ≤ sizeAt (cfgD K) i ∧ sizeAt (cfgD K) i ≤ 7 := by
  have h5 := (cfgN_range k0).2
  have : sizeAt (cfgD K) i = w (1 + (w (w (K.tdiv 4) + w (3 * i))).tmod 7) := by rw [sizeAt, cfg_cls h]; rfl
  rw [this, w_ok (n := 3 * (i : Int)) (by omega) (by omega)]
  exact one_mod k0 k1 4 (by omega) (3 * i) (by omega) (by omega) 7 (by omega) (by omega)
theorem cfg_rate {i : Nat} (h : i < cfgN K) : 1 ≤ rateAt (cfgD K) i ∧ rateAt (cfgD K) i ≤ 5 := by
  have h5 := (cfgN_range k0).2
  have : rateAt (cfgD K) i = w (1 + (w (w (K.tdiv 28) + i)).tmod 5) := by rw [rateAt, cfg_cls h]; rfl
  rw [this]
  exact one_mod k0 k1 28 (by omega) i (by omega) (by omega) 5 (by omega) (by omega)
theorem cfg_ten {t : Nat} (ht : t < 6) : tnBad (tnR K t) = false := by
  have a1 := one_mod k0 k1 140 (by omega) t (by omega) (by omega) 9 (by omega) (by omega)
  have a2 := one_mod k0 k1 1260 (by omega) t (by omega) (by omega) 3 (by omega) (by omega)
  have b1 := mod_ix k0 k1 3780 (by omega) t (by omega) 4 (by omega)
  have b2 := mod_ix k0 k1 15120 (by omega) t (by omega) 4 (by omega)
  have b3 := mod_ix k0 k1 60480 (by omega) t (by omega) 3 (by omega)
  have c1 : ∀ a, a < 4 → out ([D.I 64, .I 8, .I 3, .I 20].getD a .Z).int 0 64 = false := by decide
  have c2 : ∀ a, a < 4 → out ([D.I 64, .I 5, .I 2, .I 12].getD a .Z).int 0 64 = false := by decide
  have c3 : ∀ a, a < 3 → out ([D.I 64, .I 2, .I 9].getD a .Z).int 0 64 = false := by decide
  have o1 : out (w (1 + (w (w (K.tdiv 140) + t)).tmod 9)) 1 64 = false := by
    simp only [out, Bool.or_eq_false_iff, ltB_false]; omega
  have o2 : out (w (1 + (w (w (K.tdiv 1260) + t)).tmod 3)) 0 4 = false := by
    simp only [out, Bool.or_eq_false_iff, ltB_false]; omega
  show (out (w (1 + (w (w (K.tdiv 140) + t)).tmod 9)) 1 64 || out (w (1 + (w (w (K.tdiv 1260) + t)).tmod 3)) 0 4 || out ([D.I 64, .I 8, .I 3, .I 20].getD ((w (w (K.tdiv 3780) + t)).tmod 4).toNat .Z).int 0 64 || out ([D.I 64, .I 5, .I 2, .I 12].getD ((w (w (K.tdiv 15120) + t)).tmod 4).toNat .Z).int 0 64 || out ([D.I 64, .I 2, .I 9].getD ((w (w (K.tdiv 60480) + t)).tmod 3).toNat .Z).int 0 64) = false
  rw [o1, o2, c1 _ (by omega), c2 _ (by omega), c3 _ (by omega)]; rfl
theorem cfg_hor : horBad (cfgD K) = false := by
  have h1 : 0 ≤ K.tdiv 181440 := Int.tdiv_nonneg k0 (by omega)
  have h2 : K.tdiv 181440 ≤ K := Int.tdiv_le_self _ k0
  show out (hoR K) 1 10000 = false
  rw [hoR, w_ok (n := K.tdiv 181440) (by omega) (by omega), Int.tmod_eq_emod_of_nonneg h1, w_ok (by omega) (by omega), wrap_u64 (by omega) (by omega)]
  simp only [out, Bool.or_eq_false_iff, ltB_false]; omega
end
theorem ruR_nth {J : Int} {N i k : Nat} (hk : k < 7) (h4 : k ≠ 4) : (ruR J N i).nth k = (ruR0 J N i).nth k := by
  rw [ruR]
  split
  · rfl
  · rw [D.puts_fld (ss := [i64, u64, u64, .bool, i64, i64, i64]) (i := 4) (s := i64) rfl, ofNth_nth, if_neg h4]
    exact hk
theorem ruR_kind {J : Int} {N i : Nat} : (ruR J N i).nth 4 = if anyR J i = true then D0 i64 else .I ((w ((jR J i).tdiv 7)).tmod 3) := by
  rw [ruR]
  split
  · rfl
  · rw [D.puts_fld (ss := [i64, u64, u64, .bool, i64, i64, i64]) (i := 4) (s := i64) rfl, ofNth_nth, if_pos rfl, D.puts_nil]
    decide
section
variable {J : Int} (j0 : 0 ≤ J) (j1 : J < 1099511627776) {i : Nat} (hi : i < 5)
include j0 j1 hi
/-- A part of the number that a rule is made of. -/
theorem jR_div (d : Int) (d1 : 1 ≤ d) (m : Int) (m1 : 1 ≤ m) : 0 ≤ (w ((jR J i).tdiv d)).tmod m ∧ (w ((jR J i).tdiv d)).tmod m < m := by
  have h := jR_range j0 j1 hi
  have h1 : 0 ≤ (jR J i).tdiv d := Int.tdiv_nonneg h.1 (by omega)
  have h2 : (jR J i).tdiv d ≤ jR J i := Int.tdiv_le_self _ h.1
  rw [w_ok (by omega) (by omega), Int.tmod_eq_emod_of_nonneg h1]
  exact ⟨Int.emod_nonneg _ (by omega), Int.emod_lt_of_pos _ (by omega)⟩
theorem ruR_owner (N : Nat) : 1 ≤ ((ruR J N i).nth 0).int ∧ ((ruR J N i).nth 0).int ≤ 4 := by
  have h := jR_div j0 j1 hi 5 (by omega) 4 (by omega)
  rw [ruR_nth (by decide) (by decide)]
  show 1 ≤ w (1 + (w ((jR J i).tdiv 5)).tmod 4) ∧ w (1 + (w ((jR J i).tdiv 5)).tmod 4) ≤ 4
  rw [w_ok (n := 1 + (w ((jR J i).tdiv 5)).tmod 4) (by omega) (by omega)]
  omega
theorem ruR_labels {N : Nat} (n1 : 1 ≤ N) (n5 : N ≤ 5) : ∃ a x y : Nat, a < 5 ∧ a < N ∧ x < 4 ∧ y < 2 ∧ ((ruR J N i).nth 1).int = bitsOp .or .u64 (labI a) (y : Int) ∧ ((ruR J N i).nth 2).int = bitsOp .and .u64 (labI a) (x : Int) := by
  have h := frR_range j0 j1 hi n1
  have hx := jR_div j0 j1 hi 40 (by omega) 4 (by omega)
  have hy := jR_div j0 j1 hi 20 (by omega) 2 (by omega)
  refine ⟨(frR J N i).toNat, ((w ((jR J i).tdiv 40)).tmod 4).toNat, ((w ((jR J i).tdiv 20)).tmod 2).toNat, by omega, by omega, by omega, by omega, ?_, ?_⟩
  · rw [ruR_nth (by decide) (by decide)]
    show bitsOp .or .u64 (labI (frR J N i).toNat) (IntKind.u64.wrap ((w ((jR J i).tdiv 20)).tmod 2)) = _
    rw [wrap_u64 (by omega) (by omega)]
    congr 1; omega
  · rw [ruR_nth (by decide) (by decide)]
    show bitsOp .and .u64 (labI (frR J N i).toNat) (IntKind.u64.wrap ((w ((jR J i).tdiv 40)).tmod 4)) = _
    rw [wrap_u64 (by omega) (by omega)]
    congr 1; omega
theorem ruR_kinds (N : Nat) : 0 ≤ ((ruR J N i).nth 4).int ∧ ((ruR J N i).nth 4).int ≤ 2 ∧ (((ruR J N i).nth 3).bool = true → ((ruR J N i).nth 4).int = 0) := by
  have h := jR_div j0 j1 hi 7 (by omega) 3 (by omega)
  have e3 : ((ruR J N i).nth 3).bool = anyR J i := by rw [ruR_nth (by decide) (by decide)]; rfl
  rw [ruR_kind, e3]
  split
  · exact ⟨by decide, by decide, fun _ => rfl⟩
  · rename_i hn
    simp only [D.int_I]
    exact ⟨by omega, by omega, fun h => absurd h hn⟩
theorem ruR_bounds (N : Nat) : ((ruR J N i).nth 5).int = -5 ∧ 3 ≤ ((ruR J N i).nth 6).int := by
  have h := jR_range j0 j1 hi
  have h1 : 0 ≤ (jR J i).tdiv 320 := Int.tdiv_nonneg h.1 (by omega)
  have h2 : (jR J i).tdiv 320 ≤ jR J i := Int.tdiv_le_self _ h.1
  rw [ruR_nth (by decide) (by decide), ruR_nth (by decide) (by decide)]
  refine ⟨rfl, ?_⟩
  show 3 ≤ w (3 + w ((jR J i).tdiv 320))
  rw [w_ok (n := (jR J i).tdiv 320) (by omega) (by omega), w_ok (by omega) (by omega)]
  omega
theorem ruR_right {N : Nat} (n1 : 1 ≤ N) (n5 : N ≤ 5) : ruF (ruR J N i) = 0 := by
  have a1 := ruR_owner j0 j1 hi N
  obtain ⟨a, x, y, ha, _, hx, hy, e1, e2⟩ := ruR_labels j0 j1 hi n1 n5
  have a2 := ruR_kinds j0 j1 hi N
  have a3 := ruR_bounds j0 j1 hi N
  have hb : badOwner (ruR J N i) = false := by
    have h3 : (((ruR J N i).nth 3).bool && ((ruR J N i).nth 4).int != 0) = false := by
      cases h : ((ruR J N i).nth 3).bool
      · rfl
      · rw [a2.2.2 h]; rfl
    simp only [badOwner, h3, Bool.or_false, Bool.or_eq_false_iff, ltB_false]
    omega
  have hl : belowB ((ruR J N i).nth 2).int ((ruR J N i).nth 1).int = true := by
    have : ∀ a, a < 5 → ∀ x, x < 4 → ∀ y, y < 2 → belowB (bitsOp .and .u64 (labI a) (x : Nat)) (bitsOp .or .u64 (labI a) (y : Nat)) = true := by decide
    rw [e1, e2]; exact this a ha x hx y hy
  rw [ruF, hb, hl]
  simp only [Bool.false_eq_true, Bool.true_eq_false, if_false]
  rw [if_neg (by omega)]
end
theorem labI_inj : ∀ i, i < 5 → ∀ k, k < 5 → labI i = labI k → i = k := by decide
/-- A configuration that is made of a number is right. -/
theorem cfg_right {K : Int} (k0 : 0 ≤ K) (k1 : K < 1099511627776) : chE (cfgD K) = 0 := by
  obtain ⟨n1, n5⟩ := cfgN_range k0
  obtain ⟨j0, j1⟩ := cfgJ_range k0 k1
  have hM : cfgM (cfgJ K) < 5 := by rw [cfgM, Int.tmod_eq_emod_of_nonneg j0]; omega
  rw [ch_ok, cfg_nC, cfg_nR]
  refine ⟨?_, ?_, ?_, ?_, cfg_hor k0 k1⟩
  · rw [fullB, cfg_nC, cfg_nR]
    simp only [Bool.or_eq_false_iff, ltB_false]; omega
  · intro k hk
    have b1 := cfg_size k0 k1 hk
    have b2 := cfg_rate k0 k1 hk
    have hb : clBad ((cls (cfgD K)).getD k .Z) = false := by
      show (out (sizeAt (cfgD K) k) 1 64 || out (rateAt (cfgD K) k) 0 64) = false
      simp only [out, Bool.or_eq_false_iff, ltB_false]; omega
    have hd : dupL (cls (cfgD K)) k = false := by
      simp only [dupL, List.any_eq_false, List.mem_range, beq_iff_eq]
      intro j hj e
      have e : labAt (cfgD K) j = labAt (cfgD K) k := e
      rw [cfg_lab (by omega), cfg_lab hk] at e
      have := labI_inj j (by omega) k (by omega) e
      omega
    rw [clE, clEL, hb, hd]; rfl
  · intro k hk
    have : (cfgD K).nth 1 = tnsR K 6 := rfl
    rw [tnE, this, tnsR_get K hk, cfg_ten k0 k1 hk]; rfl
  · intro k hk
    rw [ruE, cfg_rls hk]
    exact ruR_right j0 j1 (by omega) (by omega) n5
end Go.Proofs.Ytjcfnooplhoheaa

namespace Go.Proofs.Ytjcfnooplhoheaa
open Go Go.Vm
set_option linter.unusedSimpArgs false
set_option maxRecDepth 10000
def cMadeQ : Ctx := ⟨tab, refs, [(66, sCfg), (27, sQNew), (29, sUse), (50, sLabels), (49, sMod), (34, sQk)], [], keep, mps⟩
/-- What becomes of rates by a use that is let in. -/
def stepU (c r : D) (L : Int) : D := if useX c r L = 0 then useU c r L else r
def numL (l : List D) (i : Nat) : Int := (labs5.getD (modI (l.getD i .Z).int 5).toNat .Z).int
def madeR (c : D) (l : List D) : Nat → D
  | 0 => newU c
  | n + 1 => stepU c (madeR c l n) (numL l n)
def sMadeQ : Sum := ⟨[i64, .slice i64], fun _ => none, fun
  | [n, l] => .tup [.dat configS (cfgD (cfgK n.int)), .dat ratesS (madeR (cfgD (cfgK n.int)) l.list (min l.list.length 20)), .dat .bool (.B true)]
  | _ => .und⟩
theorem useX_in {c r : D} (h : qk c r = 0) (L : Int) : useX c r L = 0 ∨ useX c r L = 14 ∨ useX c r L = 15 := by
  have hb : bothX c r L = if fl c L < nC c then 0 else 14 := by rw [bothX, if_neg (by simp [h]), qX, if_neg (by simp [qk_0 h])]
  rw [useX, hb]
  by_cases h1 : fl c L < nC c
  · simp only [h1, if_true]
    by_cases h2 : leftN c r L = 0
    · simp [h2]
    · simp [h2]
  · simp [h1]
theorem useX_both {c r : D} {L : Int} (h : useX c r L = 0) : bothX c r L = 0 ∧ leftN c r L ≠ 0 := by
  by_cases h1 : bothX c r L = 0
  · refine ⟨h1, fun h2 => ?_⟩
    rw [useX, if_neg (by simp [h1]), if_pos h2] at h; cases h
  · rw [useX, if_pos h1] at h; exact absurd h h1
theorem useU_rl {c r : D} {L : Int} (h : useX c r L = 0) : rl (useU c r L) = (rl r).set (fl c L) (.I (usedAt r (fl c L) + 1)) := by
  rw [useU, if_neg (by simp [h])]; rfl
theorem useU_at {c r : D} {L : Int} (h : useX c r L = 0) (k : Nat) : usedAt (useU c r L) k = if k = fl c L then usedAt r k + 1 else usedAt r k := by
  have hb := bothX_0 (useX_both h).1
  rw [usedAt, useU_rl h]
  by_cases e : k = fl c L
  · subst e
    rw [if_pos rfl]
    simp [List.getD_eq_getElem?_getD, show fl c L < (rl r).length from hb.2.2.1]
  · rw [if_neg e]
    simp [List.getD_eq_getElem?_getD, List.getElem?_set_ne (fun h => e h.symm), usedAt]
theorem useU_nU {c r : D} {L : Int} (h : useX c r L = 0) : nU (useU c r L) = nU r := by
  rw [nU, useU_rl h, List.length_set]; rfl
theorem qk_of {c r : D} (h : chE c = 0) (h1 : nU r = nC c) (h2 : ∀ k, k < nU r → rtBad c r k = false) : qk c r = 0 := by
  rw [qk, if_neg (by simp [h]), if_neg (by simp [h1]), if_neg]
  simp only [List.any_eq_true, List.mem_range, not_exists, not_and, Bool.not_eq_true]
  exact h2
theorem qk_at {c r : D} (h : qk c r = 0) {k : Nat} (hk : k < nC c) : 0 ≤ usedAt r k ∧ usedAt r k ≤ rateAt c k := by
  have h1 := (qk_ok h).2 k (by rw [(qk_ok h).1]; exact hk)
  simp only [rtBad, Bool.or_eq_false_iff, ltB_false] at h1
  exact h1
/-- One use more leaves rates right. -/
theorem useU_ok {c r : D} {L : Int} (h : useX c r L = 0) : qk c (useU c r L) = 0 := by
  obtain ⟨hb, hl⟩ := useX_both h
  obtain ⟨hq, hf, hU, hw⟩ := bothX_0 hb
  refine qk_of (qk_0 hq) (by rw [useU_nU h, (qk_ok hq).1]) fun k hk => ?_
  rw [useU_nU h, (qk_ok hq).1] at hk
  have h1 := qk_at hq hk
  have hL : leftN c r L = rateAt c (fl c L) - usedAt r (fl c L) := by rw [leftN, if_neg (by simp [hb])]
  rw [rtBad, useU_at h]
  simp only [Bool.or_eq_false_iff, ltB_false]
  split
  · rename_i e; subst e; omega
  · exact h1
theorem rate_le {c : D} (h : chE c = 0) {k : Nat} (hk : k < nC c) : 0 ≤ rateAt c k ∧ rateAt c k ≤ 64 := by
  have h4 := (ch_ok.1 h).2.1 k hk
  have h5 : clBad (clsAt c k) = false := by
    by_cases hb : clBad (clsAt c k) = true
    · rw [clE_2 hb] at h4; cases h4
    · simpa using hb
  simp only [clBad, out, Bool.or_eq_false_iff, ltB_false] at h5
  exact h5.2
theorem newU_at {c : D} (h : chE c = 0) (k : Nat) : usedAt (newU c) k = 0 := by
  have : rl (newU c) = List.replicate (nC c) (.I 0) := by
    show (if chE c ≠ 0 then [] else List.replicate (nC c) (D.I 0)) = _
    rw [if_neg (by simp [h])]
  rw [usedAt, this, List.getD_eq_getElem?_getD, List.getElem?_replicate]
  split <;> rfl
theorem newU_nU {c : D} (h : chE c = 0) : nU (newU c) = nC c := by
  show (if chE c ≠ 0 then [] else List.replicate (nC c) (D.I 0)).length = _
  rw [if_neg (by simp [h]), List.length_replicate]
theorem newU_ok {c : D} (h : chE c = 0) : qk c (newU c) = 0 := by
  refine qk_of h (newU_nU h) fun k hk => ?_
  rw [newU_nU h] at hk
  have := rate_le h hk
  rw [rtBad, newU_at h]
  simp only [Bool.or_eq_false_iff, ltB_false]; omega
theorem stepU_ok {c r : D} (h : qk c r = 0) (L : Int) : qk c (stepU c r L) = 0 := by
  rw [stepU]
  split
  · rename_i h1; exact useU_ok h1
  · exact h
theorem madeR_ok {c : D} (h : chE c = 0) (l : List D) : ∀ i, qk c (madeR c l i) = 0
  | 0 => newU_ok h
  | i + 1 => stepU_ok (madeR_ok h l i) _
theorem madeQ_fun : FunOK cMadeQ 200 Try.f48 sMadeQ := fun n hn l hl _ => by
  simp only [InR] at hl
  have hl0 := hl.1
  clear hl
  obtain ⟨c, hc⟩ : ∃ c, c = cfgD (cfgK n.int) := ⟨_, rfl⟩
  have hr : chE c = 0 := hc ▸ cfg_right (cfgK_range _).1 (cfgK_range _).2
  refine ⟨{ i : Nat // i ≤ min l.list.length 20 }, 4, fun i => ([(11, .dat i64 (.I i.1)), (10, .dat (.slice u64) (.L labs5)), (9, .dat i64 (.I 0)), (8, .ptr 3 ratesS [] ratesS), (7, .ptr 2 configS [] configS), (6, .dat .bool (.B false)), (5, .ptr 1 ratesS [] ratesS), (4, .ptr 0 configS [] configS), (1, .dat (.slice i64) l)],
    [(3, .box ratesS (.dat ratesS (madeR c l.list i.1))), (2, .box configS (.dat configS c)), (1, .box ratesS (.st [.slice i64] [nilS])), (0, cfgO)]), fun i => min l.list.length 20 - i.1,
    ⟨0, by omega⟩, ⟨[], rfl, ⟨rfl, rfl, slot (hc ▸ hr), rfl, rfl, rfl, rfl, rfl, rfl, trivial⟩, ⟨bx (by rw [hc]; rfl), bx hc.symm, rfl, rfl, trivial⟩⟩, ?_⟩
  intro x
  obtain ⟨i, hi⟩ := x
  have hq := madeR_ok hr l.list i
  have hux := useX_in hq (numL l.list i)
  have hi1 : (ltB (i : Int) (l.list.length : Int) && ltB (i : Int) 20 && true) = true → i < l.list.length ∧ i < 20 := fun h => by
    simp only [Bool.and_true, Bool.and_eq_true, ltB_true] at h; omega
  refine ⟨fun h1 => ⟨ix (hi1 h1).1, ?_, by kernel_rfl, fun h2 => ?_, fun h2 => ⟨fun h3 => ?_, fun h3 => ?_⟩⟩, fun h1 => ⟨by kernel_rfl, Bears.same (eqSame hc), Bears.same (eqSame ?_), Bears.bool ?_, trivial⟩⟩
  · have := modI_range (a := (l.list.getD i .Z).int) (n := 5) (by omega) (by omega)
    exact this
  · have := hi1 h1
    replace h2 : (useX c (madeR c l.list i) (numL l.list i) == 0) = true := h2
    exact ⟨⟨i + 1, by omega⟩, ⟨[], rfl, ⟨slot (i64_1 (n := i) (by omega)), rfl, rfl, rfl, rfl, rfl, rfl, rfl, rfl, trivial⟩, ⟨bx (by show useU c (madeR c l.list i) (numL l.list i) = stepU c (madeR c l.list i) (numL l.list i); rw [stepU, if_pos (by simpa using h2)]), rfl, rfl, rfl, trivial⟩⟩, by show _ - (i + 1) < _ - i; omega⟩
  · replace h2 : (useX c (madeR c l.list i) (numL l.list i) == 0) = false := h2
    replace h3 : (useX c (madeR c l.list i) (numL l.list i) != 15 && useX c (madeR c l.list i) (numL l.list i) != 14) = true := h3
    simp only [beq_eq_false_iff_ne, Bool.and_eq_true, bne_iff_ne] at h2 h3
    omega
  · have := hi1 h1
    replace h2 : (useX c (madeR c l.list i) (numL l.list i) == 0) = false := h2
    exact ⟨⟨i + 1, by omega⟩, ⟨[], rfl, ⟨slot (i64_1 (n := i) (by omega)), rfl, rfl, rfl, rfl, rfl, rfl, rfl, rfl, trivial⟩, ⟨bx (by show madeR c l.list i = stepU c (madeR c l.list i) (numL l.list i); rw [stepU, if_neg (by simpa using h2)]), rfl, rfl, rfl, trivial⟩⟩, by show _ - (i + 1) < _ - i; omega⟩
  · replace h1 : (ltB (i : Int) (l.list.length : Int) && ltB (i : Int) 20 && true) = false := h1
    simp only [Bool.and_true, Bool.and_eq_false_iff, ltB_false] at h1
    show madeR c l.list i = madeR (cfgD (cfgK n.int)) l.list (min l.list.length 20)
    rw [← hc, show min l.list.length 20 = i by omega]
  · show (true && qk c (madeR c l.list i) == 0) = true
    simp [hq]
theorem madeQ_ok : SumOK Try.prog 48 sMadeQ := sumOK_of_vc (c := cMadeQ) (ctxOK (.cons cfg_ok (.cons qNew_ok (.cons use_ok (.cons labels5_ok (.cons mod_ok (.cons qCheck_ok .nil))))))) mixed Try.func48 rfl (by decide) @madeQ_fun
def sumF (f : Nat → Int) : Nat → Int
  | 0 => 0
  | n + 1 => sumF f n + f n
theorem sumF_range {f : Nat → Int} {b : Int} (b0 : 0 ≤ b) : ∀ {n : Nat}, (∀ k, k < n → 0 ≤ f k ∧ f k ≤ b) → 0 ≤ sumF f n ∧ sumF f n ≤ b * n
  | 0, _ => by simp [sumF]
  | n + 1, h => by
    have h1 := sumF_range b0 (n := n) fun k hk => h k (by omega)
    have h2 := h n (by omega)
    have e : b * ((n + 1 : Nat) : Int) = b * n + b := by rw [Int.natCast_add, Int.mul_add]; simp
    rw [e, sumF]; omega
theorem sumF_sub (f g : Nat → Int) : ∀ n, sumF (fun k => f k - g k) n = sumF f n - sumF g n
  | 0 => rfl
  | n + 1 => by rw [sumF, sumF, sumF, sumF_sub f g n]; omega
theorem sumU_sum {r : D} : ∀ {n : Nat}, n ≤ 8 → (∀ k, k < n → 0 ≤ usedAt r k ∧ usedAt r k ≤ 64) → sumU r n = sumF (usedAt r) n
  | 0, _, _ => rfl
  | n + 1, hn, h => by
    have h1 := sumU_sum (n := n) (by omega) fun k hk => h k (by omega)
    have h2 := sumF_range (by omega) (n := n) fun k hk => h k (by omega)
    have h3 := h n (by omega)
    rw [sumU, sumF, h1, wrap_i64 (by omega) (by omega)]
theorem fl_lab {c : D} (h : chE c = 0) {i : Nat} (hi : i < nC c) : fl c (labAt c i) = i := fl_at hi rfl fun k hk => lab_inj h k i hk hi
theorem both_lab {c r : D} (h : qk c r = 0) {i : Nat} (hi : i < nC c) : bothX c r (labAt c i) = 0 := by
  rw [bothX, if_neg (by simp [h]), qX, if_neg (by simp [qk_0 h]), fl_lab (qk_0 h) hi, if_pos hi]
theorem left_lab {c r : D} (h : qk c r = 0) {i : Nat} (hi : i < nC c) : leftN c r (labAt c i) = rateAt c i - usedAt r i := by
  rw [leftN, if_neg (by simp [both_lab h hi]), fl_lab (qk_0 h) hi]
theorem use_lab {c r : D} (h : qk c r = 0) {i : Nat} (hi : i < nC c) : useX c r (labAt c i) = if rateAt c i = usedAt r i then 15 else 0 := by
  rw [useX, if_neg (by simp [both_lab h hi]), left_lab h hi]
  by_cases e : rateAt c i = usedAt r i
  · rw [if_pos (by omega), if_pos e]
  · rw [if_neg (by omega), if_neg e]
theorem tot_sum {c r : D} (h : qk c r = 0) : totN c r = sumF (usedAt r) (nC c) := by
  have h8 := nC_le (qk_0 h)
  rw [totN, if_neg (by simp [h]), (qk_ok h).1]
  exact sumU_sum h8 fun k hk => by have := qk_at h hk; have := rate_le (qk_0 h) hk; omega
def cQCounts : Ctx := ⟨tab, refs, [(6, sTrue), (48, sMadeQ), (41, sTot), (39, sLeft), (37, sMay), (29, sUse), (49, sMod), (50, sLabels), (43, sSeen), (26, sOwnR), (20, sSameI)], [], keep, mps⟩
def sLawC : Sum := ⟨[i64, .slice i64, i64], fun _ => none, fun _ => .dat .bool (.B true)⟩
theorem counts_fun : FunOK cQCounts 300 Try.f7 sLawC := fun n hn l hl a ha _ => by
  obtain ⟨c, hc⟩ : ∃ c, c = cfgD (cfgK n.int) := ⟨_, rfl⟩
  have hr : chE c = 0 := hc ▸ cfg_right (cfgK_range _).1 (cfgK_range _).2
  have hN : 2 ≤ nC c ∧ nC c ≤ 5 := by rw [hc, cfg_nC]; exact cfgN_range (cfgK_range _).1
  obtain ⟨r, hrr⟩ : ∃ r, r = madeR c l.list (min l.list.length 20) := ⟨_, rfl⟩
  have hq : qk c r = 0 := hrr ▸ madeR_ok hr _ _
  have hU := (qk_ok hq).1
  have q1 : qk (cfgD (cfgK n.int)) (madeR (cfgD (cfgK n.int)) l.list (min l.list.length 20)) = 0 := by rw [← hc, ← hrr]; exact hq
  have q2 : totN (cfgD (cfgK n.int)) (madeR (cfgD (cfgK n.int)) l.list (min l.list.length 20)) = totN c r := by rw [← hc, ← hrr]
  have q3 : madeR (cfgD (cfgK n.int)) l.list (min l.list.length 20) = r := by rw [← hc, ← hrr]
  refine ⟨fun h1 => ?_, fun h1 => ?_⟩
  · replace h1 : (!true || (nU (madeR (cfgD (cfgK n.int)) l.list (min l.list.length 20)) : Int) != (nC (cfgD (cfgK n.int)) : Int)) = true := h1
    rw [← hc, ← hrr, hU] at h1
    simp at h1
  clear h1
  refine ⟨{ i : Nat // i ≤ nC c }, 2, fun i => ([(15, .dat i64 (.I i.1)), (14, .dat i64 (.I (sumF (fun k => rateAt c k - usedAt r k) i.1))), (13, .dat i64 (.I (sumF (rateAt c) i.1))), (12, .dat i64 (.I 0)), (11, .dat i64 (.I (totN c r))), (9, .ptr 1 ratesS [] ratesS), (8, .ptr 0 configS [] configS), (7, .dat .bool (.B true)), (2, .dat i64 (.I a.int))],
    [(1, .box ratesS (.dat ratesS r)), (0, .box configS (.dat configS c))]), fun i => nC c - i.1,
    ⟨0, by omega⟩, ⟨[], rfl, ⟨rfl, rfl, rfl, slot q1, slot q2, rfl, rfl, rfl, rfl, trivial⟩, ⟨bx q3, bx hc.symm, trivial⟩⟩, ?_⟩
  intro x
  obtain ⟨i, hi⟩ := x
  have hlt : ltB (i : Int) (nC c : Int) = true → i < nC c := ltN
  have hge : ltB (i : Int) (nC c : Int) = false → i = nC c := geN hi
  have us : ∀ k, k < nC c → (0 ≤ usedAt r k ∧ usedAt r k ≤ rateAt c k) ∧ 0 ≤ rateAt c k ∧ rateAt c k ≤ 64 := fun k hk => ⟨qk_at hq hk, rate_le hr hk⟩
  have s1 := sumF_range (b := 64) (by omega) (n := i) (f := rateAt c) fun k hk => (us k (by omega)).2
  have s2 := sumF_range (b := 64) (by omega) (n := i) (f := fun k => rateAt c k - usedAt r k) fun k hk => by
    have := us k (by omega)
    show 0 ≤ rateAt c k - usedAt r k ∧ rateAt c k - usedAt r k ≤ 64
    omega
  refine ⟨fun h1 => ⟨ix (hlt h1), by kernel_rfl, fun h2 => Bears.bool ?_, fun h2 => ⟨ix (hlt h1), ?_⟩⟩, fun h1 => ⟨fun h2 => Bears.bool ?_, fun h2 => ⟨?_, ?_, ?_⟩⟩⟩
  · replace h2 : (bothX c r (labAt c i) != 0 || ltB (leftN c r (labAt c i)) 0) = true := h2
    have := us i (hlt h1)
    rw [both_lab hq (hlt h1), left_lab hq (hlt h1)] at h2
    simp only [bne_self_eq_false, Bool.false_or, ltB_true] at h2
    omega
  · have h3 := hlt h1
    have := us i h3
    refine ⟨⟨i + 1, by omega⟩, ⟨[], rfl, ⟨slot (i64_1 (n := i) (by omega)), slot ?_, slot ?_, rfl, rfl, rfl, rfl, rfl, rfl, trivial⟩, ⟨rfl, rfl, trivial⟩⟩, by show _ - (i + 1) < _ - i; omega⟩
    · show IntKind.i64.wrap (sumF (fun k => rateAt c k - usedAt r k) i + leftN c r (labAt c i)) = sumF (fun k => rateAt c k - usedAt r k) i + (rateAt c i - usedAt r i)
      rw [left_lab hq h3, wrap_i64 (by omega) (by omega)]
    · show IntKind.i64.wrap (sumF (rateAt c) i + rateAt c i) = sumF (rateAt c) i + rateAt c i
      rw [wrap_i64 (by omega) (by omega)]
  · replace h2 : (false || totN c r != IntKind.i64.wrap (sumF (rateAt c) i - sumF (fun k => rateAt c k - usedAt r k) i)) = true := h2
    rw [wrap_i64 (by omega) (by omega), sumF_sub, tot_sum hq, hge h1] at h2
    simp only [Bool.false_or, bne_iff_ne] at h2
    omega
  · exact modI_range (a := a.int) (n := (nC c : Int)) (by omega) (by omega)
  · have := modI_range (a := a.int) (n := (nC c : Int)) (by omega) (by omega)
    show 0 ≤ modI a.int (nC c) ∧ modI a.int (nC c) < (nU r : Int)
    rw [hU]; exact this
  clear s1 s2 us h1 h2 hlt hge
  obtain ⟨t, ht⟩ : ∃ t, t = (modI a.int (nC c)).toNat := ⟨_, rfl⟩
  have hA := modI_range (a := a.int) (n := (nC c : Int)) (by omega) (by omega)
  have htI : modI a.int (nC c) = t := by omega
  have htN : t < nC c := by omega
  refine ⟨{ x : D // qk c x = 0 }, 2, fun x => ([(20, .dat i64 (.I (usedAt x.1 t))), (19, .dat u64 (.I (labAt c t))), (18, .dat i64 (.I t)), (9, .ptr 1 ratesS [] ratesS), (8, .ptr 0 configS [] configS), (7, .dat .bool (.B true))], [(1, .box ratesS (.dat ratesS x.1)), (0, .box configS (.dat configS c))]), fun x => (rateAt c t - usedAt x.1 t).toNat,
    ⟨r, hq⟩, ⟨[], rfl, ⟨?_, ?_, slot htI, rfl, rfl, rfl, trivial⟩, ⟨rfl, rfl, trivial⟩⟩, ?_⟩
  · refine slot ?_
    show usedAt r (modI a.int (nC c)).toNat = usedAt r t
    rw [← ht]
  · refine slot ?_
    show labAt c (modI a.int (nC c)).toNat = labAt c t
    rw [← ht]
  clear hi i hq hrr q1 q2 q3 hU r ht hA
  intro x
  obtain ⟨r, hq⟩ := x
  have hU := (qk_ok hq).1
  have hu := qk_at hq htN
  have hw := rate_le hr htN
  have hb := both_lab hq htN
  have hl := left_lab hq htN
  have hx := use_lab hq htN
  refine ⟨ix htN, fun h1 => ?_, fun h1 => Bears.bool ?_⟩
  all_goals replace h1 : ltB (usedAt r t) (rateAt c t) = _ := h1
  all_goals simp only [ltB_true, ltB_false] at h1
  · rw [if_neg (by omega)] at hx
    have hn : nU (useU c r (labAt c t)) = nC c := by rw [useU_nU hx, hU]
    have hat := useU_at hx
    rw [fl_lab hr htN] at hat
    refine ⟨fun h2 => ⟨?_, ?_⟩, fun h2 => Bears.bool ?_, fun h2 => ?_⟩
    · show 0 ≤ (t : Int)
      omega
    · show (t : Int) < (nU (useU c r (labAt c t)) : Int)
      omega
    · replace h2 : (bothX c r (labAt c t) != 0 || !ltB 0 (leftN c r (labAt c t)) || useX c r (labAt c t) != 0 || (nU (useU c r (labAt c t)) : Int) != (nU r : Int) || usedAt (useU c r (labAt c t)) t != IntKind.i64.wrap (usedAt r t + 1)) = true := h2
      rw [hb, hl, hx, hn, hU, hat t, if_pos rfl, wrap_i64 (by omega) (by omega)] at h2
      simp only [bne_self_eq_false, Bool.false_or, Bool.or_false, Bool.not_eq_true', ltB_false] at h2
      omega
    clear h2
    refine ⟨{ k : Nat // k ≤ nC c }, 3, fun k => ([(25, .dat i64 (.I k.1)), (23, .ptr 2 ratesS [] ratesS), (20, .dat i64 (.I (usedAt r t))), (19, .dat u64 (.I (labAt c t))), (18, .dat i64 (.I t)), (9, .ptr 1 ratesS [] ratesS), (8, .ptr 0 configS [] configS), (7, .dat .bool (.B true))],
      [(2, .box ratesS (.dat ratesS (useU c r (labAt c t)))), (1, .box ratesS (.dat ratesS r)), (0, .box configS (.dat configS c))]), fun k => nC c - k.1, ⟨0, by omega⟩, ⟨[], rfl, ⟨rfl, rfl, rfl, rfl, rfl, rfl, rfl, rfl, trivial⟩, ⟨rfl, rfl, rfl, trivial⟩⟩, ?_⟩
    intro x
    obtain ⟨k, hk⟩ := x
    have hlt : ltB (k : Int) (nU r : Int) = true → k < nC c := fun h => by have := ltN h; omega
    refine ⟨fun h1 => ⟨fun _ => ⟨?_, ?_⟩, fun _ => ⟨?_, ?_⟩, by kernel_rfl, fun h2 => Bears.bool ?_, fun h2 => ?_⟩, fun h1 => ?_⟩
    · show 0 ≤ (k : Int)
      omega
    · have := hlt h1
      show (k : Int) < (nU (useU c r (labAt c t)) : Int)
      omega
    · show 0 ≤ (k : Int)
      omega
    · have := hlt h1
      show (k : Int) < (nU r : Int)
      omega
    · replace h2 : ((k : Int) != (t : Int) && usedAt (useU c r (labAt c t)) k != usedAt r k) = true := h2
      simp only [Bool.and_eq_true, bne_iff_ne, ne_eq, Int.natCast_inj] at h2
      rw [hat k, if_neg h2.1] at h2
      exact absurd rfl h2.2
    · have := hlt h1
      exact ⟨⟨k + 1, this⟩, ⟨[], rfl, ⟨slot (i64_1 (n := k) (by omega)), rfl, rfl, rfl, rfl, rfl, rfl, rfl, trivial⟩, ⟨rfl, rfl, rfl, trivial⟩⟩, by show _ - (k + 1) < _ - k; omega⟩
    · refine ⟨⟨useU c r (labAt c t), useU_ok hx⟩, ⟨[], rfl, ⟨slot ?_, rfl, rfl, rfl, rfl, rfl, trivial⟩, ⟨rfl, rfl, trivial⟩⟩, ?_⟩
      · show IntKind.i64.wrap (usedAt r t + 1) = usedAt (useU c r (labAt c t)) t
        rw [hat t, if_pos rfl, wrap_i64 (by omega) (by omega)]
      · show (rateAt c t - usedAt (useU c r (labAt c t)) t).toNat < (rateAt c t - usedAt r t).toNat
        rw [hat t, if_pos rfl]
        omega
  · rw [if_pos (by omega)] at hx
    show (true && bothX c r (labAt c t) == 0 && !ltB 0 (leftN c r (labAt c t)) && useX c r (labAt c t) == 15 && bothX c r (labAt c t) == 0 && leftN c r (labAt c t) == 0) = true
    rw [hb, hl, hx]
    simp only [beq_self_eq_true, Bool.true_and, Bool.and_true, Bool.and_eq_true, Bool.not_eq_true', ltB_false, beq_iff_eq]
    omega
theorem counts_ok : SumOK Try.prog 7 sLawC := sumOK_of_vc (c := cQCounts) (ctxOK (.cons knownQ_ok (.cons madeQ_ok (.cons tot_ok (.cons left_ok (.cons may_ok (.cons use_ok (.cons mod_ok (.cons labels5_ok (.cons seen_ok (.cons ownR_ok (.cons sameInts_ok .nil)))))))))))) mixed Try.func7 rfl (by decide) @counts_fun
def sLawB : Sum := ⟨[i64, .slice i64, .slice i64, u64], fun _ => none, fun _ => .dat .bool (.B true)⟩
theorem seenU_congr {c r s : D} {L : Int} : ∀ {n : Nat}, (∀ k, k < n → seeB c L k = true → usedAt s k = usedAt r k) → seenU c s L n = seenU c r L n
  | 0, _ => rfl
  | n + 1, h => by
    rw [seenU, seenU, seenU_congr fun k hk => h k (by omega)]
    split
    · rename_i h1; rw [h n (by omega) h1]
    · rfl
theorem fl_spec {c : D} {L : Int} (h : fl c L < nC c) : labAt c (fl c L) = L := by
  have h1 := (fi_spec (f := fun k => if labAt c k = L then 1 else 0) (m := nC c) (i := 0)).2 (by have h2 : fi (fun k => if labAt c k = L then 1 else 0) (nC c) 0 < nC c := h; omega)
  by_cases e : labAt c (fl c L) = L
  · exact e
  · exact absurd (if_neg e) h1
theorem blind_fun : FunOK cQCounts 300 Try.f8 sLawB := fun n hn l hl o ho k hk _ => by
  simp only [InR] at ho
  have ho0 := ho.1
  clear ho
  obtain ⟨c, hc⟩ : ∃ c, c = cfgD (cfgK n.int) := ⟨_, rfl⟩
  have hr : chE c = 0 := hc ▸ cfg_right (cfgK_range _).1 (cfgK_range _).2
  have hN : 2 ≤ nC c ∧ nC c ≤ 5 := by rw [hc, cfg_nC]; exact cfgN_range (cfgK_range _).1
  obtain ⟨r, hrr⟩ : ∃ r, r = madeR c l.list (min l.list.length 20) := ⟨_, rfl⟩
  have hq : qk c r = 0 := hrr ▸ madeR_ok hr _ _
  have hU := (qk_ok hq).1
  have q3 : madeR (cfgD (cfgK n.int)) l.list (min l.list.length 20) = r := by rw [← hc, ← hrr]
  refine ⟨fun h1 => ?_, fun h1 => ⟨?_, ?_⟩⟩
  · cases h1
  · show nU (madeR (cfgD (cfgK n.int)) l.list (min l.list.length 20)) ≤ 1000
    rw [q3]; omega
  clear h1
  refine ⟨{ x : Nat × D // x.1 ≤ o.list.length ∧ qk c x.2 = 0 ∧ ∀ j, j < nC c → seeB c k.int j = true → usedAt x.2 j = usedAt r j }, 3, fun x => ([(15, .dat i64 (.I x.1.1)), (14, .dat (.slice u64) (.L labs5)), (13, .ptr 2 ratesS [] ratesS), (11, .ptr 1 ratesS [] ratesS), (10, .ptr 0 configS [] configS), (9, .dat .bool (.B true)), (2, .dat (.slice i64) o), (3, .dat u64 (.I k.int))],
    [(2, .box ratesS (.dat ratesS x.1.2)), (1, .box ratesS (.dat ratesS r)), (0, .box configS (.dat configS c))]), fun x => o.list.length - x.1.1,
    ⟨(0, r), by omega, hq, fun _ _ _ => rfl⟩, ⟨[], rfl, ⟨rfl, rfl, rfl, rfl, rfl, rfl, rfl, rfl, trivial⟩, ⟨bx q3, bx q3, bx hc.symm, trivial⟩⟩, ?_⟩
  intro x
  obtain ⟨⟨i, s⟩, hi, hs, hv⟩ := x
  simp only at hi hs hv
  have hi1 : (ltB (i : Int) (o.list.length : Int) && ltB (i : Int) 20) = true → i < o.list.length ∧ i < 20 := fun h => by
    simp only [Bool.and_eq_true, ltB_true] at h; omega
  refine ⟨fun h1 => ⟨ix (hi1 h1).1, ?_, fun h2 => ?_, fun h2 => ⟨fun h3 => ?_, fun h3 => ?_⟩⟩, fun h1 => Bears.bool ?_⟩
  · have := modI_range (a := (o.list.getD i .Z).int) (n := 5) (by omega) (by omega)
    exact this
  · have := hi1 h1
    exact ⟨⟨(i + 1, s), this.1, hs, hv⟩, ⟨[], rfl, ⟨slot (i64_1 (n := i) (by omega)), rfl, rfl, rfl, rfl, rfl, rfl, rfl, trivial⟩, ⟨rfl, rfl, rfl, trivial⟩⟩, by show _ - (i + 1) < _ - i; omega⟩
  · have := hi1 h1
    replace h2 : belowB (numL o.list i) k.int = false := h2
    replace h3 : (useX c s (numL o.list i) == 0) = true := h3
    have h3 := beq_iff_eq.mp h3
    refine ⟨⟨(i + 1, useU c s (numL o.list i)), this.1, useU_ok h3, fun j hj hb => ?_⟩, ⟨[], rfl, ⟨slot (i64_1 (n := i) (by omega)), rfl, rfl, rfl, rfl, rfl, rfl, rfl, trivial⟩, ⟨rfl, rfl, rfl, trivial⟩⟩, by show _ - (i + 1) < _ - i; omega⟩
    rw [useU_at h3, if_neg, hv j hj hb]
    intro e
    subst e
    rw [seeB, fl_spec hj, h2] at hb
    cases hb
  · have := hi1 h1
    exact ⟨⟨(i + 1, s), this.1, hs, hv⟩, ⟨[], rfl, ⟨slot (i64_1 (n := i) (by omega)), rfl, rfl, rfl, rfl, rfl, rfl, rfl, trivial⟩, ⟨rfl, rfl, rfl, trivial⟩⟩, by show _ - (i + 1) < _ - i; omega⟩
  · show (true && qk c r == 0 && qk c s == 0 && sameI (if qk c r ≠ 0 then [] else seenU c r k.int (nU r)) (if qk c s ≠ 0 then [] else seenU c s k.int (nU s))) = true
    rw [if_neg (by simp [hq]), if_neg (by simp [hs]), (qk_ok hq).1, (qk_ok hs).1, seenU_congr hv, sameI_rfl, hq, hs]
    rfl
theorem blind_ok : SumOK Try.prog 8 sLawB := sumOK_of_vc (c := cQCounts) (ctxOK (.cons knownQ_ok (.cons madeQ_ok (.cons tot_ok (.cons left_ok (.cons may_ok (.cons use_ok (.cons mod_ok (.cons labels5_ok (.cons seen_ok (.cons ownR_ok (.cons sameInts_ok .nil)))))))))))) mixed Try.func8 rfl (by decide) @blind_fun
end Go.Proofs.Ytjcfnooplhoheaa
