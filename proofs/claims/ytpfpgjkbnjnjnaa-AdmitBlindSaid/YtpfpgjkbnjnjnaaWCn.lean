/- Accounts of quotas: the examples, and what is made of numbers. Accounts of configurations that are made of numbers. -/
import Derived.Test.YtpfpgjkbnjnjnaaWCj
namespace Go.Proofs.Ytpfpgjkbnjnjnaa.Cf
open Go Go.Vm
set_option linter.unusedSimpArgs false
set_option maxRecDepth 10000
def cQKn : Ctx := ⟨tab, refs, [(91, sQClass), (17, sSameI), (38, sSeen), (43, sQk)], [], keep, mps⟩
def modI (a n : Int) : Int := if ltB n 1 then 0 else if ltB (a.tmod n) 0 then IntKind.i64.wrap (a.tmod n + n) else a.tmod n
def sMod : Sum := ⟨[i64, i64], fun _ => none, fun
  | [a, n] => .dat i64 (.I (modI a.int n.int))
  | _ => .und⟩
theorem mod_fun : FunOK c0 40 Try.f20 sMod := fun a _ n _ _ => by
  refine ⟨fun h1 => Bears.int ?_, fun h1 => ⟨?_, fun h2 => Bears.int ?_, fun h2 => Bears.int ?_⟩⟩
  all_goals replace h1 : ltB n.int 1 = _ := h1
  · show 0 = modI a.int n.int
    simp [modI, h1]
  · simp only [ltB_false] at h1
    show n.int ≠ 0
    omega
  all_goals replace h2 : ltB (a.int.tmod n.int) 0 = _ := h2
  · show IntKind.i64.wrap (a.int.tmod n.int + n.int) = modI a.int n.int
    simp only [modI, h1, h2]; rfl
  · show a.int.tmod n.int = modI a.int n.int
    simp only [modI, h1, h2]; rfl
theorem modI_range {a n : Int} (h : 1 ≤ n) (h2 : n ≤ 9223372036854775807) : 0 ≤ modI a n ∧ modI a n < n := by
  have h1 : ltB n 1 = false := by simp only [ltB_false]; exact h
  have a1 := Int.tmod_lt_of_pos a (show 0 < n by omega)
  have a2 : -n < a.tmod n := by
    have := Int.tmod_lt_of_pos (-a) (show 0 < n by omega)
    rw [Int.neg_tmod] at this; omega
  simp only [modI, h1, Bool.false_eq_true, if_false]
  by_cases h3 : ltB (a.tmod n) 0 = true
  · rw [if_pos h3]
    simp only [ltB_true] at h3
    rw [wrap_i64 (by omega) (by omega)]; omega
  · rw [if_neg h3]
    simp only [ltB_true] at h3
    omega
theorem mod_ok : SumOK Try.prog 20 sMod := sumOK_of_vc (c := c0) (ctxOK .nil) mixed Try.func20 rfl (by decide) @mod_fun
def labs5 : List D := [.I 0, .I 1, .I 2, .I 3, .I 5]
def sLabels : Sum := ⟨[], fun _ => none, fun _ => .dat (.slice u64) (.L labs5)⟩
theorem labels5_fun : FunOK c0 40 Try.f25 sLabels := fun _ => by
  exact Bears.same (eqSame rfl)
theorem labels5_ok : SumOK Try.prog 25 sLabels := sumOK_of_vc (c := c0) (ctxOK .nil) mixed Try.func25 rfl (by decide) @labels5_fun
end Go.Proofs.Ytpfpgjkbnjnjnaa.Cf

namespace Go.Proofs.Ytpfpgjkbnjnjnaa.Cf
open Go Go.Vm
set_option linter.unusedSimpArgs false
set_option maxRecDepth 10000
def cCfg : Ctx := ⟨tab, refs, [(20, sMod), (25, sLabels)], [], keep, mps⟩
abbrev w (n : Int) : Int := IntKind.i64.wrap n
/-- A class, a tenant and a rule of a configuration that is made of the number K. -/
def clR (K : Int) (i : Nat) : D := .L [.I (labs5.getD i .Z).int, .I (w (1 + (w (w (K.tdiv 4) + w (3 * i))).tmod 7)), .I (w (1 + (w (w (K.tdiv 28) + i)).tmod 5))]
def clsR (K : Int) (n : Nat) : List D := tbl (clR K) n
theorem clsR_len (K : Int) (n : Nat) : (clsR K n).length = n := tbl_len _ n
def tnR (K : Int) (t : Nat) : D := .L [.I (w (1 + (w (w (K.tdiv 140) + t)).tmod 9)), .I (w (1 + (w (w (K.tdiv 1260) + t)).tmod 3)), .I ([D.I 64, .I 8, .I 3, .I 20].getD ((w (w (K.tdiv 3780) + t)).tmod 4).toNat .Z).int,
  .I ([D.I 64, .I 5, .I 2, .I 12].getD ((w (w (K.tdiv 15120) + t)).tmod 4).toNat .Z).int, .I ([D.I 64, .I 2, .I 9].getD ((w (w (K.tdiv 60480) + t)).tmod 3).toNat .Z).int]
def hoR (K : Int) : Int := IntKind.u64.wrap (w (1 + (w (K.tdiv 181440)).tmod 12))
/-- What a rule is made of; N: how many classes there are. -/
def jR (J : Int) (i : Nat) : Int := (w (w (J.tdiv 5) + w (7 * i))).tmod 1000
def frR (J : Int) (N i : Nat) : Int := (jR J i).tmod N
def anyR (J : Int) (i : Nat) : Bool := (w ((jR J i).tdiv 160)).tmod 2 == 0
def ruR0 (J : Int) (N i : Nat) : D := .L [.I (w (1 + (w ((jR J i).tdiv 5)).tmod 4)), .I (bitsOp .or .u64 (labs5.getD (frR J N i).toNat .Z).int (IntKind.u64.wrap ((w ((jR J i).tdiv 20)).tmod 2))),
  .I (bitsOp .and .u64 (labs5.getD (frR J N i).toNat .Z).int (IntKind.u64.wrap ((w ((jR J i).tdiv 40)).tmod 4))), .B (anyR J i), D0 i64, .I (-5), .I (w (3 + w ((jR J i).tdiv 320)))]
def ruR (J : Int) (N i : Nat) : D := if anyR J i = true then ruR0 J N i else D.puts ruleS (ruR0 J N i) [.fld 4] (.I ((w ((jR J i).tdiv 7)).tmod 3))
def rlsR (J : Int) (N n : Nat) : List D := tbl (ruR J N) n
theorem rlsR_len (J : Int) (N n : Nat) : (rlsR J N n).length = n := tbl_len _ n
theorem rlsR_succ (J : Int) (N n : Nat) : rlsR J N (n + 1) = rlsR J N n ++ [ruR J N n] := rfl
theorem set_last (l : List D) (a b : D) : (l ++ [a]).set l.length b = l ++ [b] := by simp
theorem get_last (l : List D) (a : D) : (l ++ [a]).getD l.length .Z = a := by simp
def cfgM (J : Int) : Nat := (J.tmod 5).toNat
theorem w_ok {n : Int} (h1 : -9223372036854775808 ≤ n) (h2 : n ≤ 9223372036854775807) : w n = n := wrap_i64 h1 h2
/-- A place that is reckoned lies within. -/
theorem mod_ix {K : Int} (k0 : 0 ≤ K) (k1 : K < 1099511627776) (d : Int) (d1 : 1 ≤ d) (t : Nat) (ht : t < 1000) (m : Int) (m1 : 1 ≤ m) : 0 ≤ (w (w (K.tdiv d) + t)).tmod m ∧ (w (w (K.tdiv d) + t)).tmod m < m := by
  have h1 : 0 ≤ K.tdiv d := Int.tdiv_nonneg k0 (by omega)
  have h2 : K.tdiv d ≤ K := Int.tdiv_le_self d k0
  rw [w_ok (n := K.tdiv d) (by omega) (by omega), w_ok (by omega) (by omega)]
  rw [Int.tmod_eq_emod_of_nonneg (by omega)]
  exact ⟨Int.emod_nonneg _ (by omega), Int.emod_lt_of_pos _ (by omega)⟩
def tnsR (K : Int) : Nat → D
  | 0 => D0 (.arr 6 tenS)
  | n + 1 => D.puts (.arr 6 tenS) (tnsR K n) [.idx n] (tnR K n)
def cfgN (K : Int) : Nat := (2 + K.tmod 4).toNat
abbrev fS : List Sh := [.slice classS, .arr 6 tenS, .slice ruleS, u64]
abbrev nilS : HV := .cst (Value.slice none 0 0)
def cfgO : VO := .box configS (.st fS [nilS, .dat (.arr 6 tenS) (D0 (.arr 6 tenS)), nilS, .dat u64 (D0 u64)])
def cfg1 (K : Int) : Nat → Env × Hp
  | 0 => ([(6, .dat i64 (.I 0)), (5, .dat (.slice u64) (.L labs5)), (4, .ptr 1 configS [] configS), (3, .dat i64 (.I K)), (2, .ptr 0 configS [] configS)], [(1, .box configS (.st fS [nilS, .dat (.arr 6 tenS) (D0 (.arr 6 tenS)), nilS, .dat u64 (D0 u64)])), (0, cfgO)])
  | i + 1 => ([(6, .dat i64 (.I (i + 1 : Nat))), (5, .dat (.slice u64) (.L labs5)), (4, .ptr 1 configS [] configS), (3, .dat i64 (.I K)), (2, .ptr 0 configS [] configS)], [(1, .box configS (.st fS [.own 2 classS, .dat (.arr 6 tenS) (D0 (.arr 6 tenS)), nilS, .dat u64 (D0 u64)])), (2, .grow classS (clsR K (i + 1))), (0, cfgO)])
def cfgJ (K : Int) : Int := w (K.tdiv 2177280)
def cfgL (K : Int) : Nat := (clsR K (cfgN K)).length
def cfgK (n : Int) : Int := modI n 1099511627776
/-- The configuration that is made of a number. -/
def cfgD (K : Int) : D := .L [.L (clsR K (cfgN K)), tnsR K 6, .L (rlsR (cfgJ K) (cfgL K) (cfgM (cfgJ K))), .I (hoR K)]
def sCfg : Sum := ⟨[i64], fun _ => none, fun
  | [n] => .dat configS (cfgD (cfgK n.int))
  | _ => .und⟩
theorem cfgK_range (n : Int) : 0 ≤ cfgK n ∧ cfgK n < 1099511627776 := modI_range (by omega) (by omega)
theorem cfgN_range {K : Int} (k0 : 0 ≤ K) : 2 ≤ cfgN K ∧ cfgN K ≤ 5 := by
  rw [cfgN, Int.tmod_eq_emod_of_nonneg k0]; omega
theorem cfgJ_range {K : Int} (k0 : 0 ≤ K) (k1 : K < 1099511627776) : 0 ≤ cfgJ K ∧ cfgJ K < 1099511627776 := by
  have h1 : 0 ≤ K.tdiv 2177280 := Int.tdiv_nonneg k0 (by omega)
  have h2 : K.tdiv 2177280 ≤ K := Int.tdiv_le_self _ k0
  rw [cfgJ, w_ok (by omega) (by omega)]; omega
theorem jR_range {J : Int} (j0 : 0 ≤ J) (j1 : J < 1099511627776) {i : Nat} (hi : i < 5) : 0 ≤ jR J i ∧ jR J i < 1000 := by
  have h1 : 0 ≤ J.tdiv 5 := Int.tdiv_nonneg j0 (by omega)
  have h2 : J.tdiv 5 ≤ J := Int.tdiv_le_self _ j0
  rw [jR, w_ok (n := J.tdiv 5) (by omega) (by omega), w_ok (n := 7 * (i : Int)) (by omega) (by omega), w_ok (by omega) (by omega), Int.tmod_eq_emod_of_nonneg (by omega)]
  omega
theorem frR_range {J : Int} (j0 : 0 ≤ J) (j1 : J < 1099511627776) {i : Nat} (hi : i < 5) {N : Nat} (n1 : 1 ≤ N) : 0 ≤ frR J N i ∧ frR J N i < N := by
  have := jR_range j0 j1 hi
  rw [frR, Int.tmod_eq_emod_of_nonneg (by omega)]
  exact ⟨Int.emod_nonneg _ (by omega), Int.emod_lt_of_pos _ (by omega)⟩
theorem rlsR_put {J : Int} {N i : Nat} (h : anyR J i = false) : (rlsR J N i ++ [ruR0 J N i]).set i (D.puts ruleS ((rlsR J N i ++ [ruR0 J N i]).getD i .Z) [.fld 4] (.I ((w ((jR J i).tdiv 7)).tmod 3))) = rlsR J N (i + 1) := by
  have e1 := get_last (rlsR J N i) (ruR0 J N i)
  rw [rlsR_len] at e1
  rw [e1]
  have e2 := set_last (rlsR J N i) (ruR0 J N i) (D.puts ruleS (ruR0 J N i) [.fld 4] (.I ((w ((jR J i).tdiv 7)).tmod 3)))
  rw [rlsR_len] at e2
  rw [e2, rlsR_succ, ruR, if_neg (by simp [h])]
theorem rlsR_app {J : Int} {N i : Nat} (h : anyR J i = true) : rlsR J N i ++ [ruR0 J N i] = rlsR J N (i + 1) := by rw [rlsR_succ, ruR, if_pos h]
theorem any_last {J : Int} {N i : Nat} {b : Bool} (h : (!(((rlsR J N i ++ [ruR0 J N i]).getD i .Z).nth 3).bool) = b) : anyR J i = !b := by
  have e1 := get_last (rlsR J N i) (ruR0 J N i)
  rw [rlsR_len] at e1
  rw [e1] at h
  rw [← h]
  show anyR J i = !!anyR J i
  rw [Bool.not_not]
def cfg3 (K J : Int) : Nat → Env × Hp
  | 0 => ([(8, .dat i64 (.I 0)), (5, .dat (.slice u64) (.L labs5)), (4, .ptr 1 configS [] configS), (3, .dat i64 (.I J)), (2, .ptr 0 configS [] configS)], [(1, .box configS (.st fS [.own 2 classS, .dat (.arr 6 tenS) (tnsR K 6), nilS, .dat u64 (.I (hoR K))])), (2, .grow classS (clsR K (cfgN K))), (0, cfgO)])
  | i + 1 => ([(8, .dat i64 (.I (i + 1 : Nat))), (5, .dat (.slice u64) (.L labs5)), (4, .ptr 1 configS [] configS), (3, .dat i64 (.I J)), (2, .ptr 0 configS [] configS)], [(1, .box configS (.st fS [.own 2 classS, .dat (.arr 6 tenS) (tnsR K 6), .own 3 ruleS, .dat u64 (.I (hoR K))])), (2, .grow classS (clsR K (cfgN K))), (3, .grow ruleS (rlsR J (clsR K (cfgN K)).length (i + 1))), (0, cfgO)])
theorem cfg_fun : FunOK cCfg 200 Try.f23 sCfg := fun n hn _ => by
  obtain ⟨K, hK⟩ : ∃ K, K = cfgK n.int := ⟨_, rfl⟩
  obtain ⟨k0, k1⟩ : 0 ≤ K ∧ K < 1099511627776 := hK ▸ cfgK_range _
  have hN : cfgN K = (2 + K.tmod 4).toNat ∧ IntKind.i64.wrap (2 + K.tmod 4) = 2 + K.tmod 4 ∧ 0 ≤ K.tmod 4 ∧ K.tmod 4 < 4 := by
    rw [Int.tmod_eq_emod_of_nonneg k0]
    refine ⟨by rw [cfgN, Int.tmod_eq_emod_of_nonneg k0], wrap_i64 (by omega) (by omega), by omega, by omega⟩
  have hlt : ∀ i : Nat, ltB (i : Int) (IntKind.i64.wrap (2 + K.tmod 4)) = true → i < cfgN K := fun i h => by
    rw [hN.2.1] at h; simp only [ltB_true] at h; omega
  have hge : ∀ i : Nat, i ≤ cfgN K → ltB (i : Int) (IntKind.i64.wrap (2 + K.tmod 4)) = false → i = cfgN K := fun i hi h => by
    rw [hN.2.1] at h; simp only [ltB_false] at h; omega
  refine ⟨{ i : Nat // i ≤ cfgN K }, 3, fun i => cfg1 K i.1, fun i => cfgN K - i.1, ⟨0, by omega⟩, ⟨[], rfl, ⟨rfl, rfl, rfl, slot hK.symm, rfl, trivial⟩, ⟨rfl, rfl, trivial⟩⟩, ?_⟩
  intro x
  obtain ⟨i, hi⟩ := x
  cases i with
  | zero =>
    refine ⟨ne0 rfl, fun h1 => ⟨?_, ne0 rfl, ne0 rfl, ne0 rfl, ne0 rfl, ?_, by kernel_rfl, ⟨⟨1, hlt 0 h1⟩, ⟨[(2, 46)], rfl, ⟨rfl, rfl, rfl, rfl, rfl, trivial⟩, ⟨rfl, rfl, rfl, trivial⟩⟩, ?_⟩⟩, fun h1 => ?_⟩
    · show 0 ≤ (0 : Int) ∧ (0 : Int) < 5
      decide
    · show 1 ≤ 1073741824
      decide
    · have := hlt 0 h1
      show cfgN K - 1 < cfgN K - 0
      omega
    · have := hge 0 hi h1
      omega
  | succ i =>
    refine ⟨ne0 rfl, fun h1 => ⟨?_, ne0 rfl, ne0 rfl, ne0 rfl, ne0 rfl, ?_, by kernel_rfl, ⟨⟨i + 2, hlt (i + 1) h1⟩, ⟨[(2, 45)], rfl, ⟨slot (i64_1 (n := i + 1) (by omega)), rfl, rfl, rfl, rfl, trivial⟩, ⟨rfl, rfl, rfl, trivial⟩⟩, ?_⟩⟩, fun h1 => ?_⟩
    · have := hlt (i + 1) h1
      show 0 ≤ ((i + 1 : Nat) : Int) ∧ ((i + 1 : Nat) : Int) < 5
      omega
    · show (clsR K (i + 1)).length + 1 ≤ 1073741824
      rw [clsR_len]; omega
    · have := hlt (i + 1) h1
      show cfgN K - (i + 2) < cfgN K - (i + 1)
      omega
    have hN1 := hge (i + 1) hi h1
    clear h1 hge hlt
    refine ⟨{ t : Nat // t ≤ 6 }, 3, fun t => ([(7, .dat i64 (.I t.1)), (5, .dat (.slice u64) (.L labs5)), (4, .ptr 1 configS [] configS), (3, .dat i64 (.I K)), (2, .ptr 0 configS [] configS)], [(1, .box configS (.st fS [.own 2 classS, .dat (.arr 6 tenS) (tnsR K t.1), nilS, .dat u64 (D0 u64)])), (2, .grow classS (clsR K (cfgN K))), (0, cfgO)]), fun t => 6 - t.1, ⟨0, by omega⟩, ⟨[], rfl, ⟨rfl, rfl, rfl, rfl, rfl, trivial⟩, ⟨rfl, gro (by rw [hN1]), rfl, trivial⟩⟩, ?_⟩
    intro x
    obtain ⟨t, ht⟩ := x
    have hlt : ltB (t : Int) 6 = true → t < 6 := fun h => by simp only [ltB_true] at h; omega
    have hge : ltB (t : Int) 6 = false → t = 6 := fun h => by simp only [ltB_false] at h; omega
    refine ⟨fun h1 => ⟨ne0 rfl, ne0 rfl, ne0 rfl, ne0 rfl, ne0 rfl, ne0 rfl, mod_ix k0 k1 _ (by decide) t (by omega) _ (by decide), ne0 rfl, ne0 rfl, mod_ix k0 k1 _ (by decide) t (by omega) _ (by decide), ne0 rfl, ne0 rfl, mod_ix k0 k1 _ (by decide) t (by omega) _ (by decide), ix (hlt h1), by kernel_rfl,
      ⟨⟨t + 1, hlt h1⟩, ⟨[], rfl, ⟨slot (i64_1 (n := t) (by omega)), rfl, rfl, rfl, rfl, trivial⟩, ⟨rfl, rfl, rfl, trivial⟩⟩, by have := hlt h1; show 6 - (t + 1) < 6 - t; omega⟩⟩, fun h1 => ⟨ne0 rfl, ne0 rfl, ne0 rfl, ?_⟩⟩
    have e := hge h1
    subst e
    clear h1 hge hlt
    obtain ⟨J, hJ⟩ : ∃ J, J = cfgJ K := ⟨_, rfl⟩
    obtain ⟨j0, j1⟩ : 0 ≤ J ∧ J < 1099511627776 := hJ ▸ cfgJ_range k0 k1
    obtain ⟨n1, n2⟩ := cfgN_range k0
    have hL : (clsR K (cfgN K)).length = cfgN K := clsR_len _ _
    have hM : cfgM J < 5 ∧ (cfgM J : Int) = J.tmod 5 := by
      rw [cfgM, Int.tmod_eq_emod_of_nonneg j0]; omega
    have hlt : ∀ i : Nat, ltB (i : Int) (J.tmod 5) = true → i < cfgM J := fun i h => by simp only [ltB_true] at h; omega
    have hge : ∀ i : Nat, i ≤ cfgM J → ltB (i : Int) (J.tmod 5) = false → i = cfgM J := fun i hi h => by simp only [ltB_false] at h; omega
    refine ⟨{ i : Nat // i ≤ cfgM J }, 4, fun i => cfg3 K J i.1, fun i => cfgM J - i.1, ⟨0, by omega⟩, ⟨[], rfl, ⟨rfl, rfl, rfl, slot hJ.symm, rfl, trivial⟩, ⟨rfl, rfl, rfl, trivial⟩⟩, ?_⟩
    intro x
    obtain ⟨i, hi⟩ := x
    cases i with
    | zero =>
      have hfr : ltB (((0 : Nat) : Nat) : Int) (J.tmod 5) = true → 0 ≤ frR J (clsR K (cfgN K)).length 0 ∧ frR J (clsR K (cfgN K)).length 0 < ((5 : Nat) : Int) := fun h1 => by
        have := hlt 0 h1
        have := frR_range j0 j1 (i := 0) (by omega) (N := (clsR K (cfgN K)).length) (by omega)
        omega
      refine ⟨ne0 rfl, fun h1 => ⟨ne0 rfl, ne0 rfl, ?_, ne0 rfl, ne0 rfl, hfr h1, ne0 rfl, ne0 rfl, hfr h1, ne0 rfl, ne0 rfl, ne0 rfl, ne0 rfl, ne0 rfl, ?_, by kernel_rfl, ?_, fun h2 => ⟨ne0 rfl, ne0 rfl, ?_, ?_⟩, fun h2 => ?_⟩, fun h1 => Bears.same (eqSame ?_)⟩
      · show ((clsR K (cfgN K)).length : Int) ≠ 0
        omega
      · have := hlt 0 h1
        show (rlsR J (clsR K (cfgN K)).length 0).length + 1 ≤ 1073741824
        rw [rlsR_len]; omega
      · have := hlt 0 h1
        show 0 ≤ (((0 : Nat) : Nat) : Int) ∧ (((0 : Nat) : Nat) : Int) < ((rlsR J (clsR K (cfgN K)).length 0 ++ [ruR0 J (clsR K (cfgN K)).length 0]).length : Int)
        rw [List.length_append, rlsR_len]
        simp only [List.length_singleton]
        omega
      · have := hlt 0 h1
        show 0 ≤ (((0 : Nat) : Nat) : Int) ∧ (((0 : Nat) : Nat) : Int) < ((rlsR J (clsR K (cfgN K)).length 0 ++ [ruR0 J (clsR K (cfgN K)).length 0]).length : Int)
        rw [List.length_append, rlsR_len]
        simp only [List.length_singleton]
        omega
      · have := hlt 0 h1
        exact ⟨⟨0 + 1, this⟩, ⟨[(3, 71)], rfl, ⟨rfl, rfl, rfl, rfl, rfl, trivial⟩, ⟨rfl, rfl, gro (rlsR_put (J := J) (N := (clsR K (cfgN K)).length) (i := 0) (any_last (J := J) (N := (clsR K (cfgN K)).length) (i := 0) h2)), rfl, trivial⟩⟩, by show cfgM J - (0 + 1) < cfgM J - 0; omega⟩
      · have := hlt 0 h1
        exact ⟨⟨0 + 1, this⟩, ⟨[(3, 71)], rfl, ⟨rfl, rfl, rfl, rfl, rfl, trivial⟩, ⟨rfl, rfl, gro (rlsR_app (J := J) (N := (clsR K (cfgN K)).length) (i := 0) (any_last (J := J) (N := (clsR K (cfgN K)).length) (i := 0) h2)), rfl, trivial⟩⟩, by show cfgM J - (0 + 1) < cfgM J - 0; omega⟩
      · have e := hge 0 hi h1
        show D.L [D.L (clsR K (cfgN K)), tnsR K 6, D.L (rlsR J (clsR K (cfgN K)).length 0), D.I (hoR K)] = cfgD (cfgK n.int)
        rw [← hK, cfgD, ← hJ, ← e]; rfl
    | succ i =>
      have hfr : ltB (((i + 1) : Nat) : Int) (J.tmod 5) = true → 0 ≤ frR J (clsR K (cfgN K)).length (i + 1) ∧ frR J (clsR K (cfgN K)).length (i + 1) < ((5 : Nat) : Int) := fun h1 => by
        have := hlt (i + 1) h1
        have := frR_range j0 j1 (i := (i + 1)) (by omega) (N := (clsR K (cfgN K)).length) (by omega)
        omega
      refine ⟨ne0 rfl, fun h1 => ⟨ne0 rfl, ne0 rfl, ?_, ne0 rfl, ne0 rfl, hfr h1, ne0 rfl, ne0 rfl, hfr h1, ne0 rfl, ne0 rfl, ne0 rfl, ne0 rfl, ne0 rfl, ?_, by kernel_rfl, ?_, fun h2 => ⟨ne0 rfl, ne0 rfl, ?_, ?_⟩, fun h2 => ?_⟩, fun h1 => Bears.same (eqSame ?_)⟩
      · show ((clsR K (cfgN K)).length : Int) ≠ 0
        omega
      · have := hlt (i + 1) h1
        show (rlsR J (clsR K (cfgN K)).length (i + 1)).length + 1 ≤ 1073741824
        rw [rlsR_len]; omega
      · have := hlt (i + 1) h1
        show 0 ≤ (((i + 1) : Nat) : Int) ∧ (((i + 1) : Nat) : Int) < ((rlsR J (clsR K (cfgN K)).length (i + 1) ++ [ruR0 J (clsR K (cfgN K)).length (i + 1)]).length : Int)
        rw [List.length_append, rlsR_len]
        simp only [List.length_singleton]
        omega
      · have := hlt (i + 1) h1
        show 0 ≤ (((i + 1) : Nat) : Int) ∧ (((i + 1) : Nat) : Int) < ((rlsR J (clsR K (cfgN K)).length (i + 1) ++ [ruR0 J (clsR K (cfgN K)).length (i + 1)]).length : Int)
        rw [List.length_append, rlsR_len]
        simp only [List.length_singleton]
        omega
      · have := hlt (i + 1) h1
        exact ⟨⟨(i + 1) + 1, this⟩, ⟨[(3, 70)], rfl, ⟨slot (i64_1 (n := i + 1) (by omega)), rfl, rfl, rfl, rfl, trivial⟩, ⟨rfl, rfl, gro (rlsR_put (J := J) (N := (clsR K (cfgN K)).length) (i := i + 1) (any_last (J := J) (N := (clsR K (cfgN K)).length) (i := i + 1) h2)), rfl, trivial⟩⟩, by show cfgM J - ((i + 1) + 1) < cfgM J - (i + 1); omega⟩
      · have := hlt (i + 1) h1
        exact ⟨⟨(i + 1) + 1, this⟩, ⟨[(3, 70)], rfl, ⟨slot (i64_1 (n := i + 1) (by omega)), rfl, rfl, rfl, rfl, trivial⟩, ⟨rfl, rfl, gro (rlsR_app (J := J) (N := (clsR K (cfgN K)).length) (i := i + 1) (any_last (J := J) (N := (clsR K (cfgN K)).length) (i := i + 1) h2)), rfl, trivial⟩⟩, by show cfgM J - ((i + 1) + 1) < cfgM J - (i + 1); omega⟩
      · have e := hge (i + 1) hi h1
        show D.L [D.L (clsR K (cfgN K)), tnsR K 6, D.L (rlsR J (clsR K (cfgN K)).length (i + 1)), D.I (hoR K)] = cfgD (cfgK n.int)
        rw [← hK, cfgD, ← hJ, ← e]; rfl
theorem cfg_ok : SumOK Try.prog 23 sCfg := sumOK_of_vc (c := cCfg) (ctxOK (.cons mod_ok (.cons labels5_ok .nil))) mixed Try.func23 rfl (by decide) @cfg_fun
end Go.Proofs.Ytpfpgjkbnjnjnaa.Cf
