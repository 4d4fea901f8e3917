/- Accounts of configurations: what is asked of one. -/
import Derived.Test.YtjcfnooplhoheaaCc
namespace Go.Proofs.Ytjcfnooplhoheaa
open Go Go.Vm
set_option linter.unusedSimpArgs false
set_option maxRecDepth 10000
theorem eqSame {s : Sh} {a b : D} (h : a = b) : Same s a b := h ▸ Same.rfl
theorem all_range {n : Nat} {p : Nat → Bool} (h : ∀ k, k < n → p k = true) : (List.range n).all p = true := by
  rw [List.all_eq_true]; intro k hk; exact h k (by simpa using hk)
theorem not_all_range {n k : Nat} {p : Nat → Bool} (hk : k < n) (h : p k = false) : (List.range n).all p = false := by
  rw [List.all_eq_false]; exact ⟨k, by simpa using hk, by simp [h]⟩
theorem upto {p : Nat → Prop} {i : Nat} (h : ∀ k, k < i → p k) (hi : p i) : ∀ k, k < i + 1 → p k := fun k hk => by
  rcases Nat.lt_or_eq_of_le (Nat.le_of_lt_succ hk) with h1 | rfl
  · exact h k h1
  · exact hi
theorem ltN {i n : Nat} (h : ltB (i : Int) (n : Int) = true) : i < n := by simp only [ltB_true] at h; omega
theorem geN {i n : Nat} (hi : i ≤ n) (h : ltB (i : Int) (n : Int) = false) : i = n := by simp only [ltB_false] at h; omega
def cK : Ctx := ⟨tab, refs, [(51, sCheckC), (52, sCheckC), (85, sBelow), (86, sBelow), (69, sFrom)], [], keep, mps⟩
def sLight : Sum := ⟨[configS], fun _ => none, fun
  | [c] => .dat .bool (.B (leB (nC c) 12 && leB (nR c) 12))
  | _ => .und⟩
theorem light_fun : FunOK c0 20 Try.f14 sLight := fun _ _ _ => Bears.rfl
theorem lightK_fun : FunOK c0 20 Try.f72 sLight := fun _ _ _ => Bears.rfl
def sameI (a b : List D) : Bool := a.length == b.length && (List.range a.length).all fun j => (a.getD j .Z).int == (b.getD j .Z).int
def sSameI : Sum := ⟨[.slice i64, .slice i64], fun _ => none, fun
  | [a, b] => .dat .bool (.B (sameI a.list b.list))
  | _ => .und⟩
theorem sameInts_fun : FunOK c0 60 Try.f20 sSameI := fun a ha b hb _ => by
  simp only [InR] at ha hb
  have ha := ha.1
  have hb := hb.1
  refine ⟨fun h1 => Bears.bool ?_, fun h1 => ?_⟩
  all_goals replace h1 : ((a.list.length : Int) != (b.list.length : Int)) = _ := h1
  · show false = sameI a.list b.list
    simp only [bne_iff_ne, ne_eq, Int.natCast_inj] at h1
    simp only [sameI, beq_eq_false_iff_ne.mpr h1, Bool.false_and]
  simp only [bne_eq_false_iff_eq, Int.natCast_inj] at h1
  refine ⟨{ i : Nat // i ≤ a.list.length ∧ ∀ k, k < i → ((a.list.getD k .Z).int == (b.list.getD k .Z).int) = true }, 0, fun i => ([(5, .dat i64 (.I i.1)), (0, .dat (.slice i64) a), (1, .dat (.slice i64) b)], []), fun i => a.list.length - i.1,
    ⟨0, by omega, fun k h => by omega⟩, ⟨[], rfl, ⟨rfl, rfl, rfl, trivial⟩, trivial⟩, ?_⟩
  intro x
  obtain ⟨i, hi, h0⟩ := x
  have hlt : ltB (i : Int) (a.list.length : Int) = true → i < a.list.length := ltN
  have hge : ltB (i : Int) (a.list.length : Int) = false → i = a.list.length := geN hi
  refine ⟨fun h2 => ⟨?_, ?_, by kernel_rfl, fun h3 => Bears.bool ?_, fun h3 => ?_⟩, fun h2 => Bears.bool ?_⟩
  · have := hlt h2; show 0 ≤ (i : Int) ∧ (i : Int) < (a.list.length : Int); omega
  · have := hlt h2; show 0 ≤ (i : Int) ∧ (i : Int) < (b.list.length : Int); omega
  · replace h3 : ((a.list.getD i .Z).int != (b.list.getD i .Z).int) = true := h3
    show false = sameI a.list b.list
    rw [sameI, not_all_range (hlt h2) (by simpa [bne] using h3), Bool.and_false]
  · replace h3 : ((a.list.getD i .Z).int != (b.list.getD i .Z).int) = false := h3
    have := hlt h2
    exact ⟨⟨i + 1, by omega, upto h0 (by simpa [bne] using h3)⟩, ⟨[], rfl, ⟨slot (i64_1 (n := i) (by omega)), rfl, rfl, trivial⟩, trivial⟩, by show _ - (i + 1) < _ - i; omega⟩
  · have e := hge h2
    show true = sameI a.list b.list
    rw [sameI, all_range (fun k hk => h0 k (by omega)), h1]; simp
def sOkR : Sum := ⟨[configS], fun _ => none, fun
  | [c] => .dat i64 (.I (chE c))
  | _ => .und⟩
theorem ok_fun : FunOK cK 20 Try.f68 sOkR := fun _ _ _ => Bears.int rfl
def tnErr (c : D) (t : Int) : Int := if chE c ≠ 0 then chE c else if out t 1 6 = true then 2 else 0
theorem tnErr_0 {c : D} {t : Int} (h : tnErr c t = 0) : chE c = 0 := by
  by_cases h1 : chE c = 0
  · exact h1
  · rw [tnErr, if_pos h1] at h; exact h
theorem nR_le {c : D} (h : chE c = 0) : nR c ≤ 8 := by
  have := (ch_ok.1 h).1
  simp only [fullB, Bool.or_eq_false_iff, ltB_false] at this
  omega
theorem nC_le {c : D} (h : chE c = 0) : nC c ≤ 8 := by
  have := (ch_ok.1 h).1
  simp only [fullB, Bool.or_eq_false_iff, ltB_false] at this
  omega
def tnGet (c : D) (t : Int) : D := if tnErr c t ≠ 0 then D0 tenS else (c.nth 1).nth (t - 1).toNat
def sTenant : Sum := ⟨[configS, i64], fun _ => none, fun
  | [c, t] => .tup [.dat tenS (tnGet c t.int), .dat i64 (.I (tnErr c t.int))]
  | _ => .und⟩
theorem Tenant_fun : FunOK cK 40 Try.f16 sTenant := fun c _ t ht _ => by
  simp only [InR, InRs] at ht
  refine ⟨fun h1 => ⟨Bears.same ?_, Bears.int ?_, trivial⟩, fun h1 => ⟨fun h2 => ⟨Bears.same ?_, Bears.int ?_, trivial⟩, fun h2 => ⟨?_, Bears.same ?_, Bears.int ?_, trivial⟩⟩⟩
  all_goals replace h1 : (chE c != 0) = _ := h1
  all_goals try replace h2 : out t.int 1 6 = _ := h2
  all_goals simp only [bne_iff_ne, ne_eq, bne_eq_false_iff_eq] at h1
  all_goals first | have e : tnErr c t.int = chE c := (if_pos h1) | have e : tnErr c t.int = 2 := (by rw [tnErr, if_neg (by simp [h1]), if_pos h2]) | have e : tnErr c t.int = 0 := (by rw [tnErr, if_neg (by simp [h1]), if_neg (by simp [h2])])
  · refine eqSame ?_
    show D0 tenS = tnGet c t.int
    rw [tnGet, if_pos (by rw [e]; exact h1)]
  · exact e.symm
  · refine eqSame ?_
    show D0 tenS = tnGet c t.int
    rw [tnGet, if_pos (by rw [e]; decide)]
  · exact e.symm
  · rw [out, Bool.or_eq_false_iff] at h2
    simp only [ltB_false] at h2
    show 0 ≤ IntKind.wrap .i64 (t.int - 1) ∧ IntKind.wrap .i64 (t.int - 1) < ((6 : Nat) : Int)
    rw [wrap_i64 (by omega) (by omega)]; omega
  · rw [out, Bool.or_eq_false_iff] at h2
    simp only [ltB_false] at h2
    refine eqSame ?_
    show (c.nth 1).nth (IntKind.wrap .i64 (t.int - 1)).toNat = tnGet c t.int
    rw [tnGet, if_neg (by simp [e]), wrap_i64 (by omega) (by omega)]
  · exact e.symm
def cK2 : Ctx := ⟨tab, refs, [(68, sOkR), (16, sTenant), (17, sTenant), (85, sBelow), (86, sBelow), (69, sFrom), (51, sCheckC)], [], keep, mps⟩
def cT : Ctx := ⟨tab, refs, [(68, sOkR), (69, sFrom)], [], keep, mps⟩
theorem TenantR_fun : FunOK cT 40 Try.f17 sTenant := fun c _ t ht _ => by
  simp only [InR, InRs] at ht
  refine ⟨fun h1 => ⟨fun h2 => ⟨Bears.same ?_, Bears.int ?_, trivial⟩, fun h2 => tf h2⟩, fun h1 => ⟨fun h2 => ⟨Bears.same ?_, Bears.int ?_, trivial⟩, fun h2 => ⟨?_, Bears.same ?_, Bears.int ?_, trivial⟩⟩⟩
  all_goals replace h1 : (chE c == 0 && !inB t.int 1 6) = _ := h1
  all_goals try replace h2 : (chE c != 0) = _ := h2
  all_goals rw [inB_out, Bool.not_not] at h1
  all_goals try simp only [bne_iff_ne, ne_eq, bne_eq_false_iff_eq] at h2
  · simp only [Bool.and_eq_true, beq_iff_eq] at h1
    refine eqSame ?_
    show D0 tenS = tnGet c t.int
    rw [tnGet, if_pos (by rw [tnErr, if_neg (by simp [h1.1]), if_pos h1.2]; decide)]
  · simp only [Bool.and_eq_true, beq_iff_eq] at h1
    show 2 = tnErr c t.int
    rw [tnErr, if_neg (by simp [h1.1]), if_pos h1.2]
  · refine eqSame ?_
    show D0 tenS = tnGet c t.int
    rw [tnGet, if_pos (by rw [tnErr, if_pos h2]; exact h2)]
  · show chE c = tnErr c t.int
    rw [tnErr, if_pos h2]
  all_goals simp [h2] at h1
  all_goals have e : tnErr c t.int = 0 := by rw [tnErr, if_neg (by simp [h2]), if_neg (by simp [h1])]
  all_goals rw [out, Bool.or_eq_false_iff] at h1
  all_goals simp only [ltB_false] at h1
  · show 0 ≤ IntKind.wrap .i64 (t.int - 1) ∧ IntKind.wrap .i64 (t.int - 1) < ((6 : Nat) : Int)
    rw [wrap_i64 (by omega) (by omega)]; omega
  · refine eqSame ?_
    show (c.nth 1).nth (IntKind.wrap .i64 (t.int - 1)).toNat = tnGet c t.int
    rw [tnGet, if_neg (by simp [e]), wrap_i64 (by omega) (by omega)]
  · exact e.symm
/-- The numbers, of those below n, with a property. -/
def pick (p : Nat → Bool) (n : Nat) : List D := ((List.range n).filter p).map fun (i : Nat) => D.I (i : Int)
theorem pick_succ (p : Nat → Bool) (n : Nat) : pick p (n + 1) = pick p n ++ if p n = true then [.I n] else [] := by
  simp only [pick, List.range_succ, List.filter_append, List.map_append]
  congr 1
  by_cases h : p n = true <;> simp [h]
theorem pick_len (p : Nat → Bool) (n : Nat) : (pick p n).length ≤ n := by
  simp only [pick, List.length_map]
  exact Nat.le_trans (List.length_filter_le _ _) (by simp)
def ownB (c : D) (t : Int) (i : Nat) : Bool := ((rlsAt c i).nth 0).int == t
def sRules : Sum := ⟨[configS, i64], fun _ => none, fun
  | [c, t] => .tup [.dat (.slice i64) (.L (if tnErr c t.int ≠ 0 then [] else pick (ownB c t.int) (nR c))), .dat i64 (.I (tnErr c t.int))]
  | _ => .und⟩
theorem Rules_fun : FunOK cK2 60 Try.f18 sRules := fun c _ t ht _ => by
  simp only [InR, InRs] at ht
  refine ⟨fun h1 => ⟨Bears.same ?_, Bears.int rfl, trivial⟩, fun h1 => ?_⟩
  all_goals replace h1 : (tnErr c t.int != 0) = _ := h1
  · refine eqSame ?_
    show D.L [] = D.L (if tnErr c t.int ≠ 0 then [] else pick (ownB c t.int) (nR c))
    rw [if_pos (by simpa using h1)]
  simp only [bne_eq_false_iff_eq] at h1
  refine ⟨{ i : Nat // i ≤ nR c }, 5, fun i => ([(23, .dat i64 (.I i.1)), (22, .dat i64 (.I (nR c))), (21, .dat (.slice ruleS) (c.nth 2)), (8, .own 4 i64), (7, .dat i64 (.I (tnErr c t.int))), (0, .dat configS c), (1, .dat i64 (.I t.int))], [(4, .grow i64 (pick (ownB c t.int) i.1))]), fun i => nR c - i.1,
    ⟨0, by omega⟩, ⟨[(4, 3)], rfl, ⟨rfl, rfl, rfl, rfl, rfl, rfl, rfl, trivial⟩, ⟨rfl, trivial⟩⟩, ?_⟩
  intro x
  obtain ⟨i, hi⟩ := x
  have hlt : ltB (i : Int) (nR c : Int) = true → i < nR c := ltN
  have hge : ltB (i : Int) (nR c : Int) = false → i = nR c := geN hi
  have h8 : nR c ≤ 8 := nR_le (tnErr_0 h1)
  refine ⟨fun h3 => ⟨?_, fun h2 => ⟨?_, ?_⟩, fun h2 => ?_⟩, fun h3 => ⟨Bears.same ?_, Bears.int ?_, trivial⟩⟩
  · have := hlt h3; show 0 ≤ (i : Int) ∧ (i : Int) < (nR c : Int); omega
  · have := hlt h3; have := pick_len (ownB c t.int) i; show (pick (ownB c t.int) i).length + 1 ≤ 1073741824; omega
  · replace h2 : ownB c t.int i = true := h2
    have := hlt h3
    refine ⟨⟨i + 1, by omega⟩, ⟨[(4, 7)], rfl, ⟨slot (i64_1 (n := i) (by omega)), rfl, rfl, rfl, rfl, rfl, rfl, trivial⟩, ⟨gro ?_, trivial⟩⟩, by show _ - (i + 1) < _ - i; omega⟩
    show pick (ownB c t.int) i ++ [D.I i] = pick (ownB c t.int) (i + 1)
    rw [pick_succ, if_pos h2]
  · replace h2 : ownB c t.int i = false := h2
    have := hlt h3
    refine ⟨⟨i + 1, by omega⟩, ⟨[], rfl, ⟨slot (i64_1 (n := i) (by omega)), rfl, rfl, rfl, rfl, rfl, rfl, trivial⟩, ⟨gro ?_, trivial⟩⟩, by show _ - (i + 1) < _ - i; omega⟩
    show pick (ownB c t.int) i = pick (ownB c t.int) (i + 1)
    rw [pick_succ, if_neg (by simp [h2]), List.append_nil]
  · have e := hge h3
    refine eqSame ?_
    show D.L (pick (ownB c t.int) i) = D.L (if tnErr c t.int ≠ 0 then [] else pick (ownB c t.int) (nR c))
    rw [if_neg (by simp [h1]), e]
  · exact h1.symm
theorem RulesR_fun : FunOK cK2 60 Try.f19 sRules := fun c _ t ht _ => by
  simp only [InR, InRs] at ht
  refine ⟨{ i : Nat // i ≤ nR c ∧ (tnErr c t.int ≠ 0 → i = 0) }, 5, fun i => ([(9, .dat i64 (.I i.1)), (8, .own 4 i64), (7, .dat i64 (.I (tnErr c t.int))), (2, .ptr 0 configS [] configS), (1, .dat i64 (.I t.int))], [(4, .grow i64 (pick (ownB c t.int) i.1)), (0, .box configS (.dat configS c))]), fun i => nR c - i.1,
    ⟨0, by omega, fun _ => rfl⟩, ⟨[(4, 3)], rfl, ⟨rfl, rfl, rfl, rfl, rfl, trivial⟩, ⟨rfl, rfl, trivial⟩⟩, ?_⟩
  intro x
  obtain ⟨i, hi, h0⟩ := x
  have hlt : ltB (i : Int) (nR c : Int) = true → i < nR c := ltN
  have hge : ltB (i : Int) (nR c : Int) = false → i = nR c := geN hi
  refine ⟨fun h1 => ⟨?_, fun h2 => ⟨?_, ?_⟩, fun h2 => ?_⟩, fun h1 => ⟨Bears.same ?_, Bears.int rfl, trivial⟩⟩
  all_goals replace h1 : (ltB (i : Int) (nR c : Int) && tnErr c t.int == 0) = _ := h1
  all_goals try obtain ⟨h3, h4⟩ := Bool.and_eq_true .. ▸ h1
  all_goals try have h4 := beq_iff_eq.mp h4
  all_goals try have h8 : nR c ≤ 8 := nR_le (tnErr_0 h4)
  · have := hlt h3; show 0 ≤ (i : Int) ∧ (i : Int) < (nR c : Int); omega
  · have := hlt h3; have := pick_len (ownB c t.int) i; show (pick (ownB c t.int) i).length + 1 ≤ 1073741824; omega
  · replace h2 : ownB c t.int i = true := h2
    have := hlt h3
    refine ⟨⟨i + 1, by omega, fun h => absurd h4 h⟩, ⟨[(4, 6)], rfl, ⟨slot (i64_1 (n := i) (by omega)), rfl, rfl, rfl, rfl, trivial⟩, ⟨gro ?_, rfl, trivial⟩⟩, by show _ - (i + 1) < _ - i; omega⟩
    show pick (ownB c t.int) i ++ [D.I i] = pick (ownB c t.int) (i + 1)
    rw [pick_succ, if_pos h2]
  · replace h2 : ownB c t.int i = false := h2
    have := hlt h3
    refine ⟨⟨i + 1, by omega, fun h => absurd h4 h⟩, ⟨[], rfl, ⟨slot (i64_1 (n := i) (by omega)), rfl, rfl, rfl, rfl, trivial⟩, ⟨gro ?_, rfl, trivial⟩⟩, by show _ - (i + 1) < _ - i; omega⟩
    show pick (ownB c t.int) i = pick (ownB c t.int) (i + 1)
    rw [pick_succ, if_neg (by simp [h2]), List.append_nil]
  · refine eqSame ?_
    show D.L (pick (ownB c t.int) i) = D.L (if tnErr c t.int ≠ 0 then [] else pick (ownB c t.int) (nR c))
    by_cases h4 : tnErr c t.int = 0
    · rw [if_neg (by simp [h4])]
      simp only [h4, beq_self_eq_true, Bool.and_true] at h1
      rw [hge h1]
    · rw [if_pos h4, h0 h4]; rfl
def sameL (s : Sh) (a b : List D) : Bool := a.length == b.length && (List.range a.length).all fun j => eqD s (a.getD j .Z) (b.getD j .Z)
theorem sameL_f {s : Sh} {a b : List D} {k : Nat} (hk : k < a.length) (h : eqD s (a.getD k .Z) (b.getD k .Z) = false) : sameL s a b = false := by
  rw [sameL, not_all_range hk h, Bool.and_false]
theorem sameL_t {s : Sh} {a b : List D} (e : a.length = b.length) (h : ∀ k, k < a.length → eqD s (a.getD k .Z) (b.getD k .Z) = true) : sameL s a b = true := by
  rw [sameL, all_range h, e]; simp
def sEq (s : Sh) : Sum := ⟨[.slice s, .slice s], fun _ => none, fun
  | [a, b] => .dat .bool (.B (sameL s a.list b.list))
  | _ => .und⟩
theorem eqC_fun : FunOK c0 60 Try.f70 (sEq classS) := fun a ha b hb _ => by
  simp only [InR] at ha hb
  have ha := ha.1
  have hb := hb.1
  refine ⟨fun h1 => Bears.bool ?_, fun h1 => ?_⟩
  all_goals replace h1 : ((a.list.length : Int) != (b.list.length : Int)) = _ := h1
  · show false = sameL _ a.list b.list
    simp only [bne_iff_ne, ne_eq, Int.natCast_inj] at h1
    simp only [sameL, beq_eq_false_iff_ne.mpr h1, Bool.false_and]
  simp only [bne_eq_false_iff_eq, Int.natCast_inj] at h1
  refine ⟨{ i : Nat // i ≤ a.list.length ∧ ∀ k, k < i → eqD classS (a.list.getD k .Z) (b.list.getD k .Z) = true }, 0, fun i => ([(13, .dat i64 (.I i.1)), (12, .dat i64 (.I a.list.length)), (0, .dat (.slice classS) a), (1, .dat (.slice classS) b)], []), fun i => a.list.length - i.1,
    ⟨0, by omega, fun k h => by omega⟩, ⟨[], rfl, ⟨rfl, rfl, rfl, rfl, trivial⟩, trivial⟩, ?_⟩
  intro x
  obtain ⟨i, hi, h0⟩ := x
  have hlt : ltB (i : Int) (a.list.length : Int) = true → i < a.list.length := ltN
  have hge : ltB (i : Int) (a.list.length : Int) = false → i = a.list.length := geN hi
  refine ⟨fun h2 => ⟨?_, ?_, by kernel_rfl, fun h3 => Bears.bool ?_, fun h3 => ?_⟩, fun h2 => Bears.bool ?_⟩
  · have := hlt h2; show 0 ≤ (i : Int) ∧ (i : Int) < (a.list.length : Int); omega
  · have := hlt h2; show 0 ≤ (i : Int) ∧ (i : Int) < (b.list.length : Int); omega
  · replace h3 : (!eqD classS (a.list.getD i .Z) (b.list.getD i .Z)) = true := h3
    show false = sameL _ a.list b.list
    rw [sameL, not_all_range (hlt h2) (by simpa using h3), Bool.and_false]
  · replace h3 : (!eqD classS (a.list.getD i .Z) (b.list.getD i .Z)) = false := h3
    have := hlt h2
    exact ⟨⟨i + 1, by omega, upto h0 (by simpa using h3)⟩, ⟨[], rfl, ⟨slot (i64_1 (n := i) (by omega)), rfl, rfl, rfl, trivial⟩, trivial⟩, by show _ - (i + 1) < _ - i; omega⟩
  · have e := hge h2
    show true = sameL _ a.list b.list
    rw [sameL, all_range (fun k hk => h0 k (by omega)), h1]; simp
theorem eqRu_fun : FunOK c0 60 Try.f71 (sEq ruleS) := fun a ha b hb _ => by
  simp only [InR] at ha hb
  have ha := ha.1
  have hb := hb.1
  refine ⟨fun h1 => Bears.bool ?_, fun h1 => ?_⟩
  all_goals replace h1 : ((a.list.length : Int) != (b.list.length : Int)) = _ := h1
  · show false = sameL _ a.list b.list
    simp only [bne_iff_ne, ne_eq, Int.natCast_inj] at h1
    simp only [sameL, beq_eq_false_iff_ne.mpr h1, Bool.false_and]
  simp only [bne_eq_false_iff_eq, Int.natCast_inj] at h1
  refine ⟨{ i : Nat // i ≤ a.list.length ∧ ∀ k, k < i → eqD ruleS (a.list.getD k .Z) (b.list.getD k .Z) = true }, 0, fun i => ([(13, .dat i64 (.I i.1)), (12, .dat i64 (.I a.list.length)), (0, .dat (.slice ruleS) a), (1, .dat (.slice ruleS) b)], []), fun i => a.list.length - i.1,
    ⟨0, by omega, fun k h => by omega⟩, ⟨[], rfl, ⟨rfl, rfl, rfl, rfl, trivial⟩, trivial⟩, ?_⟩
  intro x
  obtain ⟨i, hi, h0⟩ := x
  have hlt : ltB (i : Int) (a.list.length : Int) = true → i < a.list.length := ltN
  have hge : ltB (i : Int) (a.list.length : Int) = false → i = a.list.length := geN hi
  refine ⟨fun h2 => ⟨?_, ?_, by kernel_rfl, fun h3 => Bears.bool ?_, fun h3 => ?_⟩, fun h2 => Bears.bool ?_⟩
  · have := hlt h2; show 0 ≤ (i : Int) ∧ (i : Int) < (a.list.length : Int); omega
  · have := hlt h2; show 0 ≤ (i : Int) ∧ (i : Int) < (b.list.length : Int); omega
  · replace h3 : (!eqD ruleS (a.list.getD i .Z) (b.list.getD i .Z)) = true := h3
    show false = sameL _ a.list b.list
    rw [sameL, not_all_range (hlt h2) (by simpa using h3), Bool.and_false]
  · replace h3 : (!eqD ruleS (a.list.getD i .Z) (b.list.getD i .Z)) = false := h3
    have := hlt h2
    exact ⟨⟨i + 1, by omega, upto h0 (by simpa using h3)⟩, ⟨[], rfl, ⟨slot (i64_1 (n := i) (by omega)), rfl, rfl, rfl, trivial⟩, trivial⟩, by show _ - (i + 1) < _ - i; omega⟩
  · have e := hge h2
    show true = sameL _ a.list b.list
    rw [sameL, all_range (fun k hk => h0 k (by omega)), h1]; simp
def sameC (a b : D) : Bool := sameL classS (cls a) (cls b) && eqD (.arr 6 tenS) (a.nth 1) (b.nth 1) && sameL ruleS (rls a) (rls b) && (a.nth 3).int == (b.nth 3).int
def sSameC : Sum := ⟨[configS, configS], fun _ => none, fun
  | [a, b] => .dat .bool (.B (sameC a b))
  | _ => .und⟩
def cK3 : Ctx := ⟨tab, refs, [(70, sEq classS), (71, sEq ruleS)], [], keep, mps⟩
theorem Same_fun : FunOK cK3 60 Try.f21 sSameC := fun a ha b hb _ => by
  exact Bears.bool rfl
theorem SameR_fun : FunOK c0 60 Try.f22 sSameC := fun a ha b hb _ => by
  simp only [InR, InRs] at ha hb
  have ha0 : nC a ≤ 9223372036854775807 := ha.1.1
  have ha2 : nR a ≤ 9223372036854775807 := ha.2.2.1.1
  clear ha hb
  refine ⟨fun h1 => Bears.bool ?_, fun h1 => ?_⟩
  all_goals replace h1 : (!eqD (.arr 6 tenS) (a.nth 1) (b.nth 1) || (a.nth 3).int != (b.nth 3).int || (nC a : Int) != (nC b : Int) || (nR a : Int) != (nR b : Int)) = _ := h1
  · show false = sameC a b
    symm
    rw [sameC, sameL, sameL]
    simp only [bne, Bool.or_eq_true, Bool.not_eq_true', beq_eq_false_iff_ne, ne_eq, Int.natCast_inj] at h1
    rcases h1 with ((h1 | h1) | h1) | h1
    · rw [h1]; simp
    · rw [beq_eq_false_iff_ne.mpr h1]; simp
    · rw [beq_eq_false_iff_ne.mpr (show ¬ (cls a).length = (cls b).length from h1)]; simp
    · rw [beq_eq_false_iff_ne.mpr (show ¬ (rls a).length = (rls b).length from h1)]; simp
  simp only [bne, Bool.or_eq_false_iff, Bool.not_eq_false', beq_iff_eq, Int.natCast_inj] at h1
  obtain ⟨⟨⟨e1, e2⟩, e3⟩, e4⟩ := h1
  refine ⟨{ i : Nat // i ≤ nC a ∧ ∀ k, k < i → eqD classS (clsAt a k) (clsAt b k) = true }, 2, fun i => ([(5, .dat i64 (.I i.1)), (2, .ptr 0 configS [] configS), (3, .ptr 1 configS [] configS)], [(0, .box configS (.dat configS a)), (1, .box configS (.dat configS b))]), fun i => nC a - i.1,
    ⟨0, by omega, fun k h => by omega⟩, ⟨[], rfl, ⟨rfl, rfl, rfl, trivial⟩, ⟨rfl, rfl, trivial⟩⟩, ?_⟩
  intro x
  obtain ⟨i, hi, h0⟩ := x
  have hlt : ltB (i : Int) (nC a : Int) = true → i < nC a := ltN
  have hge : ltB (i : Int) (nC a : Int) = false → i = nC a := geN hi
  have eC : (cls a).length = (cls b).length := e3
  have eR : (rls a).length = (rls b).length := e4
  refine ⟨fun h1 => ⟨?_, ?_, by kernel_rfl, fun h2 => Bears.bool ?_, fun h2 => ?_⟩, fun h1 => ?_⟩
  · have := hlt h1; show 0 ≤ (i : Int) ∧ (i : Int) < (nC a : Int); omega
  · have := hlt h1; show 0 ≤ (i : Int) ∧ (i : Int) < (nC b : Int); omega
  · replace h2 : (!eqD classS (clsAt a i) (clsAt b i)) = true := h2
    have hf : sameL classS (cls a) (cls b) = false := sameL_f (hlt h1) ((Bool.not_eq_true' _).mp h2)
    show false = sameC a b
    rw [sameC, hf]; simp
  · replace h2 : (!eqD classS (clsAt a i) (clsAt b i)) = false := h2
    have := hlt h1
    exact ⟨⟨i + 1, by omega, upto h0 (by simpa using h2)⟩, ⟨[], rfl, ⟨slot (i64_1 (n := i) (by omega)), rfl, rfl, trivial⟩, ⟨rfl, rfl, trivial⟩⟩, by show _ - (i + 1) < _ - i; omega⟩
  have hC : sameL classS (cls a) (cls b) = true := by
    have e := hge h1
    exact sameL_t eC fun k hk => h0 k (by rw [e]; exact hk)
  clear h1 hlt hge
  refine ⟨{ i : Nat // i ≤ nR a ∧ ∀ k, k < i → eqD ruleS (rlsAt a k) (rlsAt b k) = true }, 2, fun i => ([(6, .dat i64 (.I i.1)), (2, .ptr 0 configS [] configS), (3, .ptr 1 configS [] configS)], [(0, .box configS (.dat configS a)), (1, .box configS (.dat configS b))]), fun i => nR a - i.1,
    ⟨0, by omega, fun k h => by omega⟩, ⟨[], rfl, ⟨rfl, rfl, rfl, trivial⟩, ⟨rfl, rfl, trivial⟩⟩, ?_⟩
  intro x
  obtain ⟨i, hi, h0⟩ := x
  have hlt : ltB (i : Int) (nR a : Int) = true → i < nR a := ltN
  have hge : ltB (i : Int) (nR a : Int) = false → i = nR a := geN hi
  refine ⟨fun h1 => ⟨?_, ?_, by kernel_rfl, fun h2 => Bears.bool ?_, fun h2 => ?_⟩, fun h1 => Bears.bool ?_⟩
  · have := hlt h1; show 0 ≤ (i : Int) ∧ (i : Int) < (nR a : Int); omega
  · have := hlt h1; show 0 ≤ (i : Int) ∧ (i : Int) < (nR b : Int); omega
  · replace h2 : (!eqD ruleS (rlsAt a i) (rlsAt b i)) = true := h2
    have hf : sameL ruleS (rls a) (rls b) = false := sameL_f (hlt h1) ((Bool.not_eq_true' _).mp h2)
    show false = sameC a b
    rw [sameC, hf]; simp
  · replace h2 : (!eqD ruleS (rlsAt a i) (rlsAt b i)) = false := h2
    have := hlt h1
    exact ⟨⟨i + 1, by omega, upto h0 (by simpa using h2)⟩, ⟨[], rfl, ⟨slot (i64_1 (n := i) (by omega)), rfl, rfl, trivial⟩, ⟨rfl, rfl, trivial⟩⟩, by show _ - (i + 1) < _ - i; omega⟩
  · have e := hge h1
    have hR : sameL ruleS (rls a) (rls b) = true := sameL_t eR fun k hk => h0 k (by rw [e]; exact hk)
    show true = sameC a b
    rw [sameC, hC, e1, hR, e2]; simp
theorem light_ok : SumOK Try.prog 14 sLight := sumOK_of_vc (c := c0) (ctxOK .nil) mixed Try.func14 rfl (by decide) @light_fun
theorem lightK_ok : SumOK Try.prog 72 sLight := sumOK_of_vc (c := c0) (ctxOK .nil) mixed Try.func72 rfl (by decide) @lightK_fun
theorem sameInts_ok : SumOK Try.prog 20 sSameI := sumOK_of_vc (c := c0) (ctxOK .nil) mixed Try.func20 rfl (by decide) @sameInts_fun
theorem okR_ok : SumOK Try.prog 68 sOkR := sumOK_of_vc (c := cK) (ctxOK (.cons check_ok (.cons checkR_ok (.cons below_ok (.cons belowR_ok (.cons from_ok .nil)))))) mixed Try.func68 rfl (by decide) @ok_fun
theorem tenantP_ok : SumOK Try.prog 16 sTenant := sumOK_of_vc (c := cK) (ctxOK (.cons check_ok (.cons checkR_ok (.cons below_ok (.cons belowR_ok (.cons from_ok .nil)))))) mixed Try.func16 rfl (by decide) @Tenant_fun
theorem tenantR_ok : SumOK Try.prog 17 sTenant := sumOK_of_vc (c := cT) (ctxOK (.cons okR_ok (.cons from_ok .nil))) mixed Try.func17 rfl (by decide) @TenantR_fun
theorem k2OK : CtxOK Try.prog cK2 := ctxOK (.cons okR_ok (.cons tenantP_ok (.cons tenantR_ok (.cons below_ok (.cons belowR_ok (.cons from_ok (.cons check_ok .nil)))))))
theorem rulesP_ok : SumOK Try.prog 18 sRules := sumOK_of_vc (c := cK2) k2OK mixed Try.func18 rfl (by decide) @Rules_fun
theorem rulesR_ok : SumOK Try.prog 19 sRules := sumOK_of_vc (c := cK2) k2OK mixed Try.func19 rfl (by decide) @RulesR_fun
theorem eqC_ok : SumOK Try.prog 70 (sEq classS) := sumOK_of_vc (c := c0) (ctxOK .nil) mixed Try.func70 rfl (by decide) @eqC_fun
theorem eqRu_ok : SumOK Try.prog 71 (sEq ruleS) := sumOK_of_vc (c := c0) (ctxOK .nil) mixed Try.func71 rfl (by decide) @eqRu_fun
theorem same_ok : SumOK Try.prog 21 sSameC := sumOK_of_vc (c := cK3) (ctxOK (.cons eqC_ok (.cons eqRu_ok .nil))) mixed Try.func21 rfl (by decide) @Same_fun
theorem sameR_ok : SumOK Try.prog 22 sSameC := sumOK_of_vc (c := c0) (ctxOK .nil) mixed Try.func22 rfl (by decide) @SameR_fun
end Go.Proofs.Ytjcfnooplhoheaa
