/- Accounts of stores: class, Class, Room, At. -/
import Derived.Test.YtpfpgjkbnjnjnaaWTc
namespace Go.Proofs.Ytpfpgjkbnjnjnaa
open Go Go.Vm Rg
set_option linter.unusedSimpArgs false
set_option linter.unusedVariables false
set_option maxRecDepth 10000
def isC (s : D) (l : Int) (i : Nat) : Int := if (labG s i == l) = true then 1 else 0
def cI (s : D) (l : Int) : Nat := Cf.fi (isC s l) (nG s) 0
def cE (s : D) (l : Int) : Int := if cI s l < nG s then 0 else 14
def cN (s : D) (l : Int) : Int := if cI s l < nG s then cI s l else 0
theorem cI_at {s : D} {l : Int} {i : Nat} (hi : i < nG s) (h0 : ∀ k, k < i → isC s l k = 0) (h : (labG s i == l) = true) : cI s l = i :=
  Cf.fi_0 hi h0 (by rw [isC, if_pos h]; decide)
theorem cI_no {s : D} {l : Int} (h0 : ∀ k, k < nG s → isC s l k = 0) : cI s l = nG s := Cf.fi_all h0
theorem isC_no {s : D} {l : Int} {i : Nat} (h : (labG s i == l) = false) : isC s l i = 0 := by rw [isC, if_neg (by simp [h])]
theorem cls_at {s : D} {l : Int} {i : Nat} (hi : i < nG s) (h0 : ∀ k, k < i → isC s l k = 0) (h : (labG s i == l) = true) : (i : Int) = cN s l ∧ (0 : Int) = cE s l := by
  have e := cI_at hi h0 h
  rw [cN, cE, e, if_pos hi, if_pos hi]; exact ⟨rfl, rfl⟩
theorem cls_no {s : D} {l : Int} (h0 : ∀ k, k < nG s → isC s l k = 0) : (0 : Int) = cN s l ∧ (14 : Int) = cE s l := by
  have e := cI_no h0
  rw [cN, cE, e, if_neg (by omega), if_neg (by omega)]; exact ⟨rfl, rfl⟩
def sCls : Sum := ⟨[storeS, u64], fun
  | [s, _] => some (nG s ≤ 8)
  | _ => none, fun
  | [s, l] => .tup [.dat i64 (.I (cN s l.int)), .dat i64 (.I (cE s l.int))]
  | _ => .und⟩
theorem cls_fun : FunOK c0T 60 Try.f71 sCls := fun s hs l hl h => by
  replace h : nG s ≤ 8 := h
  refine ⟨{ i : Nat // i ≤ nG s ∧ ∀ k, k < i → isC s l.int k = 0 }, 1, fun i => ([(11, .dat i64 (.I i.1)), (10, .dat i64 (.I (nG s))), (9, .dat (.slice ringS) (s.nth 0)), (1, .dat u64 (.I l.int))], []), fun i => nG s - i.1,
    ⟨0, by omega, fun k h => by omega⟩, ⟨[], rfl, ⟨rfl, rfl, rfl, rfl, trivial⟩, trivial⟩, ?_⟩
  intro x
  obtain ⟨i, hi, h0⟩ := x
  refine ⟨fun h1 => ?_, fun h1 => ?_⟩
  · have hk : i < nG s := ltN h1
    refine ⟨ix hk, fun h2 => ?_, fun h2 => ?_⟩
    all_goals replace h2 : (labG s i == l.int) = _ := h2
    · have := cls_at hk h0 h2
      exact ⟨Bears.int this.1, Bears.int this.2, trivial⟩
    · exact ⟨⟨i + 1, hk, upto h0 (isC_no h2)⟩, ⟨[], rfl, ⟨slot (i64_1 (n := i) (by omega)), rfl, rfl, rfl, trivial⟩, trivial⟩, stepLt hk⟩
  · have he : i = nG s := geN hi h1
    have := cls_no (s := s) (l := l.int) fun k hk => h0 k (by omega)
    exact ⟨Bears.int this.1, Bears.int this.2, trivial⟩
theorem cls_ok : SumOK Try.prog 71 sCls := sumOK_of_vc (c := c0T) (ctxT .nil) mixed Try.func71 rfl (by decide) @cls_fun
/-! ### Class, Room, At -/
theorem st_ok {s : D} (h : stE s = 0) : okRgs s ∧ dupG s = false ∧ rngG s = false ∧ numE s = 0 := by
  unfold stE at h
  split at h
  · cases h
  split at h
  · rename_i h1 h2; exact absurd h h2
  split at h
  · cases h
  split at h
  · cases h
  rename_i h8 h0 hd hr
  refine ⟨⟨by omega, fun i hi => ?_⟩, by simpa using hd, by simpa using hr, h⟩
  have h0 : firstErrN (chG s) (nG s) = 0 := by simpa using h0
  have : ∀ k, k < nG s → chG s k = 0 := by
    intro k
    induction k using Nat.strongRecOn with
    | ind k ih =>
      intro hk
      apply Classical.byContradiction
      intro hne
      rw [firstErrN_at hk (fun q hq => ih q hq (by omega)) hne] at h0
      exact hne h0
  exact this i hi
def clsE (s : D) (l : Int) : Int := if stE s ≠ 0 then stE s else cE s l
def clsN (s : D) (l : Int) : Int := if stE s ≠ 0 then 0 else cN s l
def sClass : Sum := ⟨[storeS, u64], fun _ => none, fun
  | [s, l] => .tup [.dat i64 (.I (clsN s l.int)), .dat i64 (.I (clsE s l.int))]
  | _ => .und⟩
def cCl : Ctx := ⟨tabT, refsT, [(42, sChk), (71, sCls)], [], keep, mpsT⟩
def cClR : Ctx := ⟨tabT, refsT, [], [], keep, mpsT⟩
theorem neB {a : Int} (h : (a != 0) = true) : a ≠ 0 := by simpa using h
theorem eqB {a : Int} (h : (a != 0) = false) : a = 0 := by simpa using h
theorem clsE_bad {s : D} {l : Int} (h : stE s ≠ 0) : (0 : Int) = clsN s l ∧ stE s = clsE s l := by rw [clsN, clsE, if_pos h, if_pos h]; exact ⟨rfl, rfl⟩
theorem clsE_ok {s : D} {l : Int} (h : stE s = 0) : cN s l = clsN s l ∧ cE s l = clsE s l := by rw [clsN, clsE, if_neg (by simp [h]), if_neg (by simp [h])]; exact ⟨rfl, rfl⟩
theorem cN_lt {s : D} {l : Int} (h : cE s l = 0) : 0 ≤ cN s l ∧ cN s l < (nG s : Int) ∧ cN s l = (cI s l : Int) ∧ cI s l < nG s := by
  unfold cE at h
  split at h
  · rename_i h1
    rw [cN, if_pos h1]; omega
  · cases h
theorem clsE_zero {s : D} {l : Int} (h : clsE s l = 0) : stE s = 0 ∧ cE s l = 0 ∧ clsN s l = cN s l := by
  unfold clsE at h
  split at h
  · rename_i h1; exact absurd h h1
  · rename_i h1
    have h1 : stE s = 0 := by simpa using h1
    exact ⟨h1, h, by rw [clsN, if_neg (by simp [h1])]⟩
def roomN (s : D) (l : Int) : Int := if clsE s l ≠ 0 then 0 else IntKind.i64.wrap (((rgAt s (cI s l)).nth 1).int - lenI (rgAt s (cI s l)))
def sRoom : Sum := ⟨[storeS, u64], fun _ => none, fun
  | [s, l] => .tup [.dat i64 (.I (roomN s l.int)), .dat i64 (.I (clsE s l.int))]
  | _ => .und⟩
def cRm : Ctx := ⟨tabT, refsT, [(92, Rg.sLen)], [], keep, mpsT⟩
def cRmR : Ctx := ⟨tabT, refsT, [], [], keep, mpsT⟩
theorem room_0 {s : D} {l : Int} (h : clsE s l ≠ 0) : (0 : Int) = roomN s l := by rw [roomN, if_pos h]
theorem room_1 {s : D} {l : Int} (h : clsE s l = 0) : IntKind.i64.wrap (((rgAt s (clsN s l).toNat).nth 1).int - (if chk (rgAt s (clsN s l).toNat) ≠ 0 then 0 else lenI (rgAt s (clsN s l).toNat))) = roomN s l := by
  obtain ⟨h1, h2, h3⟩ := clsE_zero h
  obtain ⟨h4, h5, h6, h7⟩ := cN_lt h2
  have e : (clsN s l).toNat = cI s l := by rw [h3, h6]; omega
  rw [e, if_neg (by simp [(st_ok h1).1.2 _ h7]), roomN, if_neg (by simp [h])]
theorem clsN_in {s : D} {l : Int} (h : clsE s l = 0) : 0 ≤ clsN s l ∧ clsN s l < ((rgs s).length : Int) := by
  obtain ⟨h1, h2, h3⟩ := clsE_zero h
  obtain ⟨h4, h5, h6, h7⟩ := cN_lt h2
  rw [h3]; exact ⟨h4, h5⟩
def atE (s : D) (i : Int) : Int := if stE s ≠ 0 then stE s else if (ltB i 0 || leB (nG s) i) = true then 2 else 0
def atR (s : D) (i : Int) : D := if atE s i ≠ 0 then D0 ringS else rgAt s i.toNat
def sAt : Sum := ⟨[storeS, i64], fun _ => none, fun
  | [s, i] => .tup [.dat ringS (atR s i.int), .dat i64 (.I (atE s i.int))]
  | _ => .und⟩
theorem at_bad {s : D} {i : Int} (h : stE s ≠ 0) : D0 ringS = atR s i ∧ stE s = atE s i := by
  have e : stE s = atE s i := by rw [atE, if_pos h]
  exact ⟨by rw [atR, if_pos (by rw [← e]; exact h)], e⟩
theorem at_2 {s : D} {i : Int} (h : stE s = 0) (h2 : (ltB i 0 || leB (nG s) i) = true) : D0 ringS = atR s i ∧ (2 : Int) = atE s i := by
  have e : (2 : Int) = atE s i := by rw [atE, if_neg (by simp [h]), if_pos h2]
  exact ⟨by rw [atR, if_pos (by rw [← e]; decide)], e⟩
theorem at_ok' {s : D} {i : Int} (h : stE s = 0) (h2 : (ltB i 0 || leB (nG s) i) = false) : (0 ≤ i ∧ i < ((rgs s).length : Int)) ∧ rgAt s i.toNat = atR s i ∧ (0 : Int) = atE s i := by
  have e : (0 : Int) = atE s i := by rw [atE, if_neg (by simp [h]), if_neg (by simp [h2])]
  refine ⟨?_, by rw [atR, if_neg (by simp [← e])], e⟩
  have : nG s = (rgs s).length := rfl
  simp only [Bool.or_eq_false_iff, ltB_false, leB_false] at h2; omega
/-! ### New -/
def newRgs (c : D) (n : Nat) : List D := (List.range n).map fun i => newR (Cf.labAt c i) (Cf.sizeAt c i)
def newT (c : D) : D := if Cf.chE c ≠ 0 then D0 storeS else .L [.L (newRgs c (Cf.nC c)), .I 0, .I 0, .I (c.nth 3).int]
def sNewT : Sum := ⟨[Cf.configS], fun _ => none, fun
  | [c] => .tup [.dat storeS (newT c), .dat i64 (.I (Cf.chE c))]
  | _ => .und⟩
theorem newRgs_succ (c : D) (n : Nat) : newRgs c (n + 1) = newRgs c n ++ [newR (Cf.labAt c n) (Cf.sizeAt c n)] := by simp [newRgs, List.range_succ]
theorem newRgs_len (c : D) (n : Nat) : (newRgs c n).length = n := by simp [newRgs]
def cNw : Ctx := ⟨tabT, refsT, [(41, Cf.sCheckC), (59, Rg.sNew)], [], keep, mpsT⟩
def cNwR : Ctx := ⟨tabT, refsT, [], [], keep, mpsT⟩
theorem newT_bad {c : D} (h : Cf.chE c ≠ 0) : D0 storeS = newT c := by rw [newT, if_pos h]
theorem newT_ok {c : D} (h : Cf.chE c = 0) : D.L [.L (newRgs c (Cf.nC c)), .I 0, .I 0, .I (c.nth 3).int] = newT c := by rw [newT, if_neg (by simp [h])]
theorem nw_len {c : D} (h : Cf.chE c = 0) : Cf.nC c ≤ 8 := by
  have := (Cf.ch_ok.1 h).1
  simp only [Cf.fullB, Bool.or_eq_false_iff, ltB_false] at this; omega
theorem nw_size {c : D} (h : Cf.chE c = 0) {i : Nat} (hi : i < Cf.nC c) : (ltB (Cf.sizeAt c i) 1 || ltB 64 (Cf.sizeAt c i)) = false := by
  have h1 := (Cf.ch_ok.1 h).2.1 i hi
  apply Classical.byContradiction
  intro hne
  have h2 : Cf.clBad (Cf.clsAt c i) = true := by
    rw [Cf.clBad, Bool.or_eq_true]; exact .inl (Bool.not_eq_false _ ▸ hne)
  rw [Cf.clE_2 h2] at h1; cases h1
theorem new_fun : FunOK cNw 60 Try.f40 sNewT := fun c hc h => by
  refine ⟨fun h1 => ⟨Bears.same (eqSame ?_), Bears.int rfl, trivial⟩, fun h1 => ?_⟩
  · exact newT_bad (neB h1)
  replace h1 : Cf.chE c = 0 := eqB h1
  have h8 := nw_len h1
  refine ⟨{ i : Nat // i ≤ Cf.nC c }, 4, fun i => ([(26, .dat i64 (.I i.1)), (25, .dat i64 (.I (Cf.nC c))), (24, .dat (.slice Cf.classS) (c.nth 0)), (6, .ptr 2 storeS [] storeS), (2, .ptr 1 storeS [] storeS)], [(2, .box storeS (.st [.slice ringS, u64, u64, u64] [.own 3 ringS, .dat u64 (D0 u64), .dat u64 (D0 u64), .dat u64 (.I (c.nth 3).int)])), (3, .grow ringS (newRgs c i.1)), (1, .box storeS (.st [.slice ringS, u64, u64, u64] [.cst (Value.slice none 0 0), .dat u64 (D0 u64), .dat u64 (D0 u64), .dat u64 (D0 u64)]))]), fun i => Cf.nC c - i.1,
    ⟨0, by omega⟩, ⟨[(3, 1000000)], rfl, ⟨rfl, rfl, rfl, rfl, rfl, trivial⟩, ⟨rfl, rfl, rfl, trivial⟩⟩, ?_⟩
  intro x
  obtain ⟨i, hi⟩ := x
  refine ⟨fun h2 => ?_, fun h2 => ⟨Bears.same (eqSame ?_), Bears.int h1.symm, trivial⟩⟩
  · have hk : i < Cf.nC c := ltN h2
    refine ⟨ix hk, fun h3 => ?_, fun h3 => ⟨?_, ⟨i + 1, hk⟩, ⟨[(3, 7)], rfl, ⟨slot (i64_1 (n := i) (by omega)), rfl, rfl, rfl, rfl, trivial⟩, ⟨rfl, gro (newRgs_succ c i).symm, rfl, trivial⟩⟩, stepLt hk⟩⟩
    · replace h3 : ((if (ltB (Cf.sizeAt c i) 1 || ltB 64 (Cf.sizeAt c i)) = true then (2 : Int) else 0) != 0) = true := h3
      rw [nw_size h1 hk] at h3; cases h3
    · show (newRgs c i).length + 1 ≤ 1073741824
      rw [newRgs_len]; omega
  · have he : i = Cf.nC c := geN hi h2
    subst he
    exact newT_ok h1
theorem newT_ok' : SumOK Try.prog 40 sNewT := sumOK_of_vc (c := cNw) (ctxT (.cons Cf.check_ok (.cons Rg.new_ok .nil))) mixed Try.func40 rfl (by decide) @new_fun
end Go.Proofs.Ytpfpgjkbnjnjnaa
