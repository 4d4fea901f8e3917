/- Accounts of rules: events of numbers, which rules may be used. -/
import Derived.Test.YtjjpeeppfnhiiaaWPa
namespace Go.Proofs.Ytjjpeeppfnhiiaa
open Go Go.Vm
set_option linter.unusedSimpArgs false
set_option linter.unusedVariables false
set_option maxRecDepth 10000
/-- The numbers, of those below n, with a property. -/
def pick (p : Nat → Bool) (n : Nat) : List D := ((List.range n).filter p).map fun (i : Nat) => D.I (i : Int)
theorem pick_succ (p : Nat → Bool) (n : Nat) : pick p (n + 1) = pick p n ++ if p n = true then [.I n] else [] := by
  simp only [pick, List.range_succ, List.filter_append, List.map_append]
  congr 1
  by_cases h : p n = true <;> simp [h]
theorem pick_len (p : Nat → Bool) (n : Nat) : (pick p n).length ≤ n := by
  simp only [pick, List.length_map]
  exact Nat.le_trans (List.length_filter_le _ _) (by simp)
def hasI (l : List D) (n : Int) : Bool := l.any fun d => d.int == n
def sHas : Sum := ⟨[.slice i64, i64], fun _ => none, fun
  | [l, n] => .dat .bool (.B (hasI l.list n.int))
  | _ => .und⟩
theorem has_fun : FunOK c0K 60 Try.f22 sHas := fun l hl n hn _ => by
  simp only [InR] at hl
  have hl := hl.1
  refine ⟨{ i : Nat // i ≤ l.list.length ∧ ∀ k, k < i → ((l.list.getD k .Z).int == n.int) = false }, 0, fun i => ([(5, .dat i64 (.I i.1)), (0, .dat (.slice i64) l), (1, .dat i64 (.I n.int))], []), fun i => l.list.length - i.1,
    ⟨0, by omega, fun k h => by omega⟩, ⟨[], rfl, ⟨rfl, rfl, rfl, trivial⟩, trivial⟩, ?_⟩
  intro x
  obtain ⟨i, hi, h0⟩ := x
  have hlt : ltB (i : Int) (l.list.length : Int) = true → i < l.list.length := ltN
  refine ⟨fun h1 => ⟨ix (hlt h1), fun h2 => Bears.bool ?_, fun h2 => ?_⟩, fun h1 => Bears.bool ?_⟩
  · have hk := hlt h1
    replace h2 : ((l.list.getD i .Z).int == n.int) = true := h2
    show true = hasI l.list n.int
    symm
    rw [hasI, List.any_eq_true]
    refine ⟨l.list[i], List.getElem_mem hk, ?_⟩
    rw [List.getD_eq_getElem?_getD, List.getElem?_eq_getElem hk] at h2
    exact h2
  · have := hlt h1
    exact ⟨⟨i + 1, this, upto h0 h2⟩, ⟨[], rfl, ⟨slot (i64_1 (n := i) (by omega)), rfl, rfl, trivial⟩, trivial⟩, by show l.list.length - (i + 1) < l.list.length - i; omega⟩
  · have e : i = l.list.length := geN hi h1
    show false = hasI l.list n.int
    symm
    rw [hasI, List.any_eq_false]
    intro d hd
    obtain ⟨k, hk, rfl⟩ := List.getElem_of_mem hd
    have := h0 k (by omega)
    rw [List.getD_eq_getElem?_getD, List.getElem?_eq_getElem hk] at this
    simpa using this
theorem has_pick {p : Nat → Bool} : ∀ {n k : Nat}, hasI (pick p n) (k : Int) = (decide (k < n) && p k)
  | 0, k => by simp [pick, hasI]
  | n + 1, k => by
    have ih := has_pick (p := p) (n := n) (k := k)
    simp only [hasI] at ih ⊢
    rw [pick_succ, List.any_append, ih]
    by_cases e : k = n
    · subst e
      by_cases hp : p k = true <;> simp [hp]
    · by_cases hp : p n = true
      · simp only [hp, if_true, List.any_cons, List.any_nil, Bool.or_false, D.int_I]
        have : ((n : Int) == (k : Int)) = false := by rw [beq_eq_false_iff_ne]; omega
        rw [this, Bool.or_false]
        congr 1
        rw [decide_eq_decide]; omega
      · simp only [hp, Bool.false_eq_true, if_false, List.any_nil, Bool.or_false]
        congr 1
        rw [decide_eq_decide]; omega
abbrev bv (a : Int) : BitVec 64 := BitVec.ofInt 64 a
theorem wrap_bv (x : BitVec 64) : IntKind.u64.wrap (x.toNat : Int) = x.toNat := wrap_u64 (by omega) (by have := x.isLt; omega)
theorem bv_and (a b : Int) : bv (bitsOp .and .u64 a b) = bv a &&& bv b := by
  show BitVec.ofInt 64 (IntKind.u64.wrap ((bv a &&& bv b).toNat : Int)) = _
  rw [wrap_bv, BitVec.ofInt_natCast, BitVec.ofNat_toNat, BitVec.setWidth_eq]
theorem bv_or (a b : Int) : bv (bitsOp .or .u64 a b) = bv a ||| bv b := by
  show BitVec.ofInt 64 (IntKind.u64.wrap ((bv a ||| bv b).toNat : Int)) = _
  rw [wrap_bv, BitVec.ofInt_natCast, BitVec.ofNat_toNat, BitVec.setWidth_eq]
theorem belowB_iff (a b : Int) : belowB a b = true ↔ ∀ i, i < 64 → (bv a).getLsbD i = true → (bv b).getLsbD i = true := by
  show (IntKind.u64.wrap ((bv a &&& ~~~bv b).toNat : Int) == 0) = true ↔ _
  rw [wrap_bv]
  have e : ((((bv a &&& ~~~bv b).toNat : Nat) : Int) == 0) = true ↔ bv a &&& ~~~bv b = 0#64 := by
    rw [beq_iff_eq, ← BitVec.toNat_inj]
    simp
  rw [e]
  constructor
  · intro h i hi ha
    have := congrArg (fun x => x.getLsbD i) h
    simp only [BitVec.getLsbD_and, BitVec.getLsbD_not, ha, hi, decide_true, Bool.true_and, BitVec.getLsbD_zero, Bool.not_eq_false'] at this
    exact this
  · intro h
    apply BitVec.eq_of_getLsbD_eq
    intro i hi
    simp only [BitVec.getLsbD_and, BitVec.getLsbD_not, hi, decide_true, Bool.true_and, BitVec.getLsbD_zero]
    cases ha : (bv a).getLsbD i
    · rfl
    · rw [h i hi ha]; rfl
theorem belowB_and (x a b : Int) : belowB x (bitsOp .and .u64 a b) = (belowB x a && belowB x b) := by
  rw [Bool.eq_iff_iff, Bool.and_eq_true, belowB_iff, belowB_iff, belowB_iff, bv_and]
  simp only [BitVec.getLsbD_and, Bool.and_eq_true]
  exact ⟨fun h => ⟨fun i hi k => (h i hi k).1, fun i hi k => (h i hi k).2⟩, fun h i hi k => ⟨h.1 i hi k, h.2 i hi k⟩⟩
theorem belowB_or {x a b : Int} (h : (belowB x a || belowB x b) = true) : belowB x (bitsOp .or .u64 a b) = true := by
  rw [Bool.or_eq_true, belowB_iff, belowB_iff] at h
  rw [belowB_iff, bv_or]
  intro i hi k
  simp only [BitVec.getLsbD_or, Bool.or_eq_true]
  rcases h with h | h
  · exact .inl (h i hi k)
  · exact .inr (h i hi k)
theorem belowB_all1 (x : Int) : belowB x 18446744073709551615 = true := by
  rw [belowB_iff]
  intro i hi _
  have : bv 18446744073709551615 = BitVec.allOnes 64 := by decide
  rw [this, BitVec.getLsbD_allOnes]
  simpa using hi
theorem belowB_self (x : Int) : belowB x x = true := by
  rw [belowB_iff]; exact fun _ _ h => h
def rlsK (n : Int) : List D := rlsR (cfgJ (cfgK n)) (cfgL (cfgK n)) (cfgM (cfgJ (cfgK n)))
def sRls : Sum := ⟨[i64], fun _ => none, fun
  | [n] => .dat (.slice ruleS) (.L (rlsK n.int))
  | _ => .und⟩
def cRls : Ctx := ⟨tabK, [], [(43, sCfg)], [], keep, []⟩
theorem rls_fun : FunOK cRls 40 Try.f17 sRls := fun n hn _ => by
  exact Bears.same (eqSame rfl)
def lblI (n : Int) : Int := if ((cfgK n).tmod 16 == 15) = true then IntKind.u64.wrap (IntKind.u64.wrap (w ((cfgK n).tdiv 16)) * 11400714819323198485) else IntKind.u64.wrap (bitsOp .and .i64 ((cfgK n).tmod 16) ((w ((cfgK n).tdiv 16)).tmod 16))
def sLbl : Sum := ⟨[i64], fun _ => none, fun
  | [n] => .dat u64 (.I (lblI n.int))
  | _ => .und⟩
def cLbl : Ctx := ⟨tabK, [], [(19, sMod), (44, sLbl)], [], keep, []⟩
def cLbl0 : Ctx := ⟨tabK, [], [(19, sMod)], [], keep, []⟩
theorem lbl_fun : FunOK cLbl0 40 Try.f44 sLbl := fun n hn _ => by
  refine ⟨ne0 rfl, fun h1 => ⟨ne0 rfl, Bears.int ?_⟩, fun h1 => ⟨ne0 rfl, ne0 rfl, ne0 rfl, Bears.int ?_⟩⟩
  all_goals replace h1 : ((cfgK n.int).tmod 16 == 15) = _ := h1
  · show _ = lblI n.int
    rw [lblI, if_pos h1]; rfl
  · show _ = lblI n.int
    rw [lblI, if_neg (by simp [h1])]; rfl
def kndI (n : Int) : Int := (w ((cfgK n).tdiv 256)).tmod 4
def bigL : List D := [.I (-9223372036854775808), .I 9223372036854775807, .I 0, .I 1099511627776]
def valI (n : Int) : Int := if ((w ((cfgK n).tdiv 86016)).tmod 9 == 0) = true then (bigL.getD ((w ((cfgK n).tdiv 774144)).tmod 4).toNat .Z).int else w ((w ((cfgK n).tdiv 4096)).tmod 21 - 10)
def evK (n : Int) : D := .L [.I (lblI ((cfgK n).tmod 256)), .I (kndI n), .I (valI n)]
def sEvK : Sum := ⟨[i64], fun _ => none, fun
  | [n] => .dat eventS (evK n.int)
  | _ => .und⟩
theorem evt_fun : FunOK cLbl 60 Try.f18 sEvK := fun n hn _ => by
  have hk := cfgK_range n.int
  refine ⟨ne0 rfl, ne0 rfl, ne0 rfl, ne0 rfl, fun h1 => ⟨ne0 rfl, ne0 rfl, ?_, ne0 rfl, ne0 rfl, ne0 rfl, Bears.same (eqSame ?_)⟩, fun h1 => ⟨ne0 rfl, ne0 rfl, ne0 rfl, Bears.same (eqSame ?_)⟩⟩
  all_goals replace h1 : ((w ((cfgK n.int).tdiv 86016)).tmod 9 == 0) = _ := h1
  · have h1 : 0 ≤ (cfgK n.int).tdiv 774144 := Int.tdiv_nonneg hk.1 (by omega)
    have h2 : (cfgK n.int).tdiv 774144 ≤ cfgK n.int := Int.tdiv_le_self _ hk.1
    show 0 ≤ (w ((cfgK n.int).tdiv 774144)).tmod 4 ∧ (w ((cfgK n.int).tdiv 774144)).tmod 4 < ((4 : Nat) : Int)
    rw [w_ok (by omega) (by omega), Int.tmod_eq_emod_of_nonneg h1]
    omega
  · show D.L [.I (lblI ((cfgK n.int).tmod 256)), .I (kndI n.int), .I (bigL.getD ((w ((cfgK n.int).tdiv 774144)).tmod 4).toNat .Z).int] = evK n.int
    rw [evK, valI, if_pos h1]
  · show D.L [.I (lblI ((cfgK n.int).tmod 256)), .I (kndI n.int), .I (w ((w ((cfgK n.int).tdiv 4096)).tmod 21 - 10))] = evK n.int
    rw [evK, valI, if_neg (by simp [h1])]
def whE (l e : D) : Int := if listF l ≠ 0 then listF l else eventF e
def whP (l : D) (t c : Int) (e : D) (i : Nat) : Bool := mayF l i t c == 0 && belowB (e.nth 0).int ((l.list.getD i .Z).nth 1).int && fitsB (l.list.getD i .Z) e
def whL (l : D) (t c : Int) (e : D) : List D := if whE l e ≠ 0 then [] else pick (whP l t c e) l.list.length
def sWhich : Sum := ⟨[.slice ruleS, i64, u64, eventS], fun _ => none, fun
  | [l, t, c, e] => .tup [.dat (.slice i64) (.L (whL l t.int c.int e)), .dat i64 (.I (whE l e))]
  | _ => .und⟩
noncomputable def cWhich : Ctx := ⟨tabK, [], [(28, sList), (36, sEvent), (47, smay), (40, sBelow), (37, sfits)], [(45, Try.f45), (46, Try.f46)], keep, []⟩
theorem which_fun : FunOK cWhich 60 Try.f20 sWhich := fun l hl t ht c hc e he _ => by
  refine ⟨fun h1 => ⟨fun h2 => ⟨Bears.same (eqSame ?_), Bears.int ?_, trivial⟩, fun h2 => ?_⟩, fun h1 => ⟨fun h2 => ⟨Bears.same (eqSame ?_), Bears.int ?_, trivial⟩, fun h2 => ?_⟩⟩
  all_goals replace h1 : (listF l == 0) = _ := h1
  all_goals first | replace h2 : (eventF e != 0) = _ := h2 | replace h2 : (listF l != 0) = _ := h2
  all_goals simp only [bne_iff_ne, ne_eq, bne_eq_false_iff_eq, beq_iff_eq, beq_eq_false_iff_ne] at h1 h2
  · have hE : whE l e = eventF e := by rw [whE, if_neg (by simp [h1])]
    show D.L [] = D.L (whL l t.int c.int e)
    rw [whL, if_pos (by rw [hE]; exact h2)]
  · show eventF e = whE l e
    rw [whE, if_neg (by simp [h1])]
  · have hE : whE l e = 0 := by rw [whE, if_neg (by simp [h1])]; exact h2
    have h8 : l.list.length ≤ 8 := by
      rw [listF] at h1
      split at h1
      · cases h1
      · omega
    refine ⟨{ i : Nat // i ≤ l.list.length }, 8, fun i => ([(10, .dat i64 (.I i.1)), (9, .dat i64 (.I l.list.length)), (8, .dat (.slice ruleS) l), (5, .own 7 i64), (1, .fn 46 [.ptr 0 (.slice ruleS) [] (.slice ruleS), .ptr 1 i64 [] i64, .ptr 2 u64 [] u64, .ptr 3 eventS [] eventS])],
      [(7, .grow i64 (pick (whP l t.int c.int e) i.1)), (3, .box eventS (.dat eventS e)), (2, .box u64 (.dat u64 (.I c.int))), (1, .box i64 (.dat i64 (.I t.int))), (0, .box (.slice ruleS) (.dat (.slice ruleS) l))]), fun i => l.list.length - i.1,
      ⟨0, by omega⟩, ⟨[(7, 6)], rfl, ⟨rfl, rfl, rfl, rfl, rfl, trivial⟩, ⟨rfl, rfl, rfl, rfl, rfl, trivial⟩⟩, ?_⟩
    intro x
    obtain ⟨i, hi⟩ := x
    have hlt : ltB (i : Int) (l.list.length : Int) = true → i < l.list.length := ltN
    have hge : ltB (i : Int) (l.list.length : Int) = false → i = l.list.length := geN hi
    refine ⟨fun h1 => ⟨ix (hlt h1), fun h2 => ⟨?_, ?_⟩, fun h2 => ?_⟩, fun h1 => ⟨Bears.same ?_, Bears.int ?_, trivial⟩⟩
    · have := hlt h1; have := pick_len (whP l t.int c.int e) i; show (pick (whP l t.int c.int e) i).length + 1 ≤ 1073741824; omega
    · replace h2 : whP l t.int c.int e i = true := h2
      have := hlt h1
      refine ⟨⟨i + 1, by omega⟩, ⟨[(7, 11)], rfl, ⟨slot (i64_1 (n := i) (by omega)), rfl, rfl, rfl, rfl, trivial⟩, ⟨gro ?_, rfl, rfl, rfl, rfl, trivial⟩⟩, by show _ - (i + 1) < _ - i; omega⟩
      show pick (whP l t.int c.int e) i ++ [D.I i] = pick (whP l t.int c.int e) (i + 1)
      rw [pick_succ, if_pos h2]
    · replace h2 : whP l t.int c.int e i = false := h2
      have := hlt h1
      refine ⟨⟨i + 1, by omega⟩, ⟨[], rfl, ⟨slot (i64_1 (n := i) (by omega)), rfl, rfl, rfl, rfl, trivial⟩, ⟨gro ?_, rfl, rfl, rfl, rfl, trivial⟩⟩, by show _ - (i + 1) < _ - i; omega⟩
      show pick (whP l t.int c.int e) i = pick (whP l t.int c.int e) (i + 1)
      rw [pick_succ, if_neg (by simp [h2]), List.append_nil]
    · have e' := hge h1
      refine eqSame ?_
      show D.L (pick (whP l t.int c.int e) i) = D.L (whL l t.int c.int e)
      rw [whL, if_neg (by simp [hE]), e']
    · exact hE.symm
  · show D.L [] = D.L (whL l t.int c.int e)
    rw [whL, if_pos (by rw [whE, if_pos h1]; exact h1)]
  · show listF l = whE l e
    rw [whE, if_pos h1]
  · exact absurd h2 h1
end Go.Proofs.Ytjjpeeppfnhiiaa
