/- Accounts of configurations: greater labels see more. -/
import Derived.Test.YtjcfnooplhoheaaWCx
namespace Go.Proofs.Ytjcfnooplhoheaa
open Go Go.Vm
set_option linter.unusedSimpArgs false
set_option linter.unusedVariables false
set_option maxRecDepth 10000
abbrev bv (a : Int) : BitVec 64 := BitVec.ofInt 64 a
theorem wrap_bv (x : BitVec 64) : IntKind.u64.wrap (x.toNat : Int) = x.toNat := wrap_u64 (by omega) (by have := x.isLt; omega)
theorem bv_and (a b : Int) : bv (bitsOp .and .u64 a b) = bv a &&& bv b := by
  show BitVec.ofInt 64 (IntKind.u64.wrap ((bv a &&& bv b).toNat : Int)) = _
  rw [wrap_bv, BitVec.ofInt_natCast, BitVec.ofNat_toNat, BitVec.setWidth_eq]
theorem bv_or (a b : Int) : bv (bitsOp .or .u64 a b) = bv a ||| bv b := by
  show BitVec.ofInt 64 (IntKind.u64.wrap ((bv a ||| bv b).toNat : Int)) = _
  rw [wrap_bv, BitVec.ofInt_natCast, BitVec.ofNat_toNat, BitVec.setWidth_eq]
theorem belowB_iff (a b : Int) : belowB a b = true ↔ ∀ i, i < 64 → (bv a).getLsbD i = true → (bv b).getLsbD i = true := by
  show (IntKind.u64.wrap ((bv a &&& ~~~bv b).toNat : Int) == 0) = true ↔ _
  rw [wrap_bv]
  have e : ((((bv a &&& ~~~bv b).toNat : Nat) : Int) == 0) = true ↔ bv a &&& ~~~bv b = 0#64 := by
    rw [beq_iff_eq, ← BitVec.toNat_inj]
    simp
  rw [e]
  constructor
  · intro h i hi ha
    have := congrArg (fun x => x.getLsbD i) h
    simp only [BitVec.getLsbD_and, BitVec.getLsbD_not, ha, hi, decide_true, Bool.true_and, BitVec.getLsbD_zero, Bool.not_eq_false'] at this
    exact this
  · intro h
    apply BitVec.eq_of_getLsbD_eq
    intro i hi
    simp only [BitVec.getLsbD_and, BitVec.getLsbD_not, hi, decide_true, Bool.true_and, BitVec.getLsbD_zero]
    cases ha : (bv a).getLsbD i
    · rfl
    · rw [h i hi ha]; rfl
theorem belowB_and (x a b : Int) : belowB x (bitsOp .and .u64 a b) = (belowB x a && belowB x b) := by
  rw [Bool.eq_iff_iff, Bool.and_eq_true, belowB_iff, belowB_iff, belowB_iff, bv_and]
  simp only [BitVec.getLsbD_and, Bool.and_eq_true]
  exact ⟨fun h => ⟨fun i hi k => (h i hi k).1, fun i hi k => (h i hi k).2⟩, fun h i hi k => ⟨h.1 i hi k, h.2 i hi k⟩⟩
theorem belowB_or {x a b : Int} (h : (belowB x a || belowB x b) = true) : belowB x (bitsOp .or .u64 a b) = true := by
  rw [Bool.or_eq_true, belowB_iff, belowB_iff] at h
  rw [belowB_iff, bv_or]
  intro i hi k
  simp only [BitVec.getLsbD_or, Bool.or_eq_true]
  rcases h with h | h
  · exact .inl (h i hi k)
  · exact .inr (h i hi k)
theorem belowB_all1 (x : Int) : belowB x 18446744073709551615 = true := by
  rw [belowB_iff]
  intro i hi _
  have : bv 18446744073709551615 = BitVec.allOnes 64 := by decide
  rw [this, BitVec.getLsbD_allOnes]
  simpa using hi
theorem belowB_self (x : Int) : belowB x x = true := by
  rw [belowB_iff]; exact fun _ _ h => h
def hasI (l : List D) (n : Int) : Bool := l.any fun d => d.int == n
def sHas : Sum := ⟨[.slice i64, i64], fun _ => none, fun
  | [l, n] => .dat .bool (.B (hasI l.list n.int))
  | _ => .und⟩
theorem has_fun : FunOK c0 60 Try.f67 sHas := fun l hl n hn _ => by
  simp only [InR] at hl
  have hl := hl.1
  refine ⟨{ i : Nat // i ≤ l.list.length ∧ ∀ k, k < i → ((l.list.getD k .Z).int == n.int) = false }, 0, fun i => ([(5, .dat i64 (.I i.1)), (0, .dat (.slice i64) l), (1, .dat i64 (.I n.int))], []), fun i => l.list.length - i.1,
    ⟨0, by omega, fun k h => by omega⟩, ⟨[], rfl, ⟨rfl, rfl, rfl, trivial⟩, trivial⟩, ?_⟩
  intro x
  obtain ⟨i, hi, h0⟩ := x
  have hlt : ltB (i : Int) (l.list.length : Int) = true → i < l.list.length := ltN
  refine ⟨fun h1 => ⟨ix (hlt h1), fun h2 => Bears.bool ?_, fun h2 => ?_⟩, fun h1 => Bears.bool ?_⟩
  · have hk := hlt h1
    replace h2 : ((l.list.getD i .Z).int == n.int) = true := h2
    show true = hasI l.list n.int
    symm
    rw [hasI, List.any_eq_true]
    refine ⟨l.list[i], List.getElem_mem hk, ?_⟩
    rw [List.getD_eq_getElem?_getD, List.getElem?_eq_getElem hk] at h2
    exact h2
  · have := hlt h1
    exact ⟨⟨i + 1, this, upto h0 h2⟩, ⟨[], rfl, ⟨slot (i64_1 (n := i) (by omega)), rfl, rfl, trivial⟩, trivial⟩, by show l.list.length - (i + 1) < l.list.length - i; omega⟩
  · have e : i = l.list.length := geN hi h1
    show false = hasI l.list n.int
    symm
    rw [hasI, List.any_eq_false]
    intro d hd
    obtain ⟨k, hk, rfl⟩ := List.getElem_of_mem hd
    have := h0 k (by omega)
    rw [List.getD_eq_getElem?_getD, List.getElem?_eq_getElem hk] at this
    simpa using this
theorem has_ok : SumOK Try.prog 67 sHas := sumOK_of_vc (c := c0) (ctxOK .nil) mixed Try.func67 rfl (by decide) @has_fun
theorem has_pick {p : Nat → Bool} : ∀ {n k : Nat}, hasI (pick p n) (k : Int) = (decide (k < n) && p k)
  | 0, k => by simp [pick, hasI]
  | n + 1, k => by
    have ih := has_pick (p := p) (n := n) (k := k)
    simp only [hasI] at ih ⊢
    rw [pick_succ, List.any_append, ih]
    by_cases e : k = n
    · subst e
      by_cases hp : p k = true <;> simp [hp]
    · by_cases hp : p n = true
      · simp only [hp, if_true, List.any_cons, List.any_nil, Bool.or_false, D.int_I]
        have : ((n : Int) == (k : Int)) = false := by rw [beq_eq_false_iff_ne]; omega
        rw [this, Bool.or_false]
        congr 1
        rw [decide_eq_decide]; omega
      · simp only [hp, Bool.false_eq_true, if_false, List.any_nil, Bool.or_false]
        congr 1
        rw [decide_eq_decide]; omega
theorem pick_all {p : Nat → Bool} : ∀ {n : Nat}, (∀ k, k < n → p k = true) → pick p n = tbl (fun k => .I k) n
  | 0, _ => rfl
  | n + 1, h => by rw [pick_succ, if_pos (h n (by omega)), pick_all (n := n) fun k hk => h k (by omega), tbl]
theorem sumF_congr {f g : Nat → Int} : ∀ {n : Nat}, (∀ k, k < n → f k = g k) → sumF f n = sumF g n
  | 0, _ => rfl
  | n + 1, h => by rw [sumF, sumF, sumF_congr (n := n) fun k hk => h k (by omega), h n (by omega)]
theorem lS_all {c : D} (h : chE c = 0) : lS c 18446744073709551615 = tbl (fun k => .I k) (nC c) := by
  rw [lS, if_neg (by simp [h])]
  exact pick_all fun k _ => belowB_all1 _
theorem lS_has {c : D} (h : chE c = 0) (L : Int) {k : Nat} (hk : k < nC c) : hasI (lS c L) (k : Int) = seeB c L k := by
  rw [lS, if_neg (by simp [h]), has_pick]
  simp [hk]
def cCSees : Ctx := ⟨tab, refs, [(10, sTrue), (66, sCfg), (55, sSees), (60, sPlaces), (53, sClassC), (67, sHas)], [], keep, mps⟩
def sLawCS : Sum := ⟨[i64, u64, u64], fun _ => none, fun _ => .dat .bool (.B true)⟩
theorem csees_fun : FunOK cCSees 400 Try.f11 sLawCS := fun n hn a ha b hb _ => by
  obtain ⟨c, hc⟩ : ∃ c, c = cfgD (cfgK n.int) := ⟨_, rfl⟩
  have hr : chE c = 0 := hc ▸ cfg_right (cfgK_range _).1 (cfgK_range _).2
  have hN : 2 ≤ nC c ∧ nC c ≤ 5 := by rw [hc, cfg_nC]; exact cfgN_range (cfgK_range _).1
  have hA := lS_all hr
  refine ⟨fun h1 => ?_, fun h1 => ?_⟩
  · replace h1 : (chE (cfgD (cfgK n.int)) != 0 || chE (cfgD (cfgK n.int)) != 0 || chE (cfgD (cfgK n.int)) != 0 || chE (cfgD (cfgK n.int)) != 0 || chE (cfgD (cfgK n.int)) != 0 || chE (cfgD (cfgK n.int)) != 0 || ((lS (cfgD (cfgK n.int)) 18446744073709551615).length : Int) != (nC (cfgD (cfgK n.int)) : Int)) = true := h1
    rw [← hc, hr, hA, tbl_len] at h1
    simp at h1
  clear h1
  have ent : ∀ L : Int, D.L (lS (cfgD (cfgK n.int)) L) = D.L (lS c L) := fun L => by rw [hc]
  have ent2 : plS (cfgD (cfgK n.int)) 18446744073709551615 = plS c 18446744073709551615 := by rw [hc]
  refine ⟨{ k : Nat // k ≤ nC c }, 1, fun k => ([(22, .dat i64 (.I k.1)), (21, .dat i64 (.I (sumF (sizeAt c) k.1))), (19, .dat i64 (.I (plS c 18446744073709551615))), (17, .dat (.slice i64) (.L (lS c 18446744073709551615))), (15, .dat (.slice i64) (.L (lS c (bitsOp .or .u64 a.int b.int)))), (13, .dat (.slice i64) (.L (lS c (bitsOp .and .u64 a.int b.int)))),
      (11, .dat (.slice i64) (.L (lS c b.int))), (9, .dat (.slice i64) (.L (lS c a.int))), (8, .ptr 0 configS [] configS), (7, .dat .bool (.B true))], [(0, .box configS (.dat configS c))]), fun k => nC c - k.1,
    ⟨0, by omega⟩, ⟨[], rfl, ⟨rfl, rfl, slot ent2, slotD (ent _), slotD (ent _), slotD (ent _), slotD (ent _), slotD (ent _), rfl, rfl, trivial⟩, ⟨bx hc.symm, trivial⟩⟩, ?_⟩
  intro x
  obtain ⟨k, hk⟩ := x
  have hlt : ltB (k : Int) (nC c : Int) = true → k < nC c := ltN
  have hge : ltB (k : Int) (nC c : Int) = false → k = nC c := geN hk
  have hcl : k < nC c → clX c (labAt c k) = 0 ∧ clN c (labAt c k) = k := fun h => by
    exact ⟨by rw [clX, if_neg (by simp [hr]), fl_lab hr h, if_pos h], by rw [clN, if_neg (by simp [hr]), fl_lab hr h, if_pos h]⟩
  have hs := sumF_range (b := 64) (by omega) (n := k) (f := sizeAt c) fun j hj => by
    have := size_le hr (k := j) (by omega)
    omega
  refine ⟨fun h1 => ⟨ix (hlt h1), by kernel_rfl, ix (hlt h1), by kernel_rfl, fun h2 => ⟨?_, ?_⟩, fun h2 => ?_, fun h2 => ⟨fun h3 => ?_, fun h3 => ⟨ix (hlt h1), ?_⟩⟩⟩, fun h1 => Bears.bool ?_⟩
  · show 0 ≤ (k : Int)
    omega
  · have := hlt h1
    show (k : Int) < ((lS c 18446744073709551615).length : Int)
    rw [hA, tbl_len]; omega
  · have h4 := hlt h1
    replace h2 : (clX c (labAt c k) != 0 || clN c (labAt c k) != (k : Int) || chE c != 0 || !hasI (lS c (labAt c k)) (k : Int) || ((lS c 18446744073709551615).getD k .Z).int != (k : Int)) = true := h2
    rw [(hcl h4).1, (hcl h4).2, hr, lS_has hr _ h4, seeB, belowB_self, hA, tbl_get _ h4] at h2
    simp at h2
  · have h4 := hlt h1
    replace h3 : (!(hasI (lS c (bitsOp .and .u64 a.int b.int)) (k : Int) == (hasI (lS c a.int) (k : Int) && hasI (lS c b.int) (k : Int))) || (hasI (lS c a.int) (k : Int) || hasI (lS c b.int) (k : Int)) && !hasI (lS c (bitsOp .or .u64 a.int b.int)) (k : Int)) = true := h3
    rw [lS_has hr _ h4, lS_has hr _ h4, lS_has hr _ h4, lS_has hr _ h4] at h3
    simp only [seeB] at h3
    rw [belowB_and] at h3
    cases h5 : (belowB (labAt c k) a.int || belowB (labAt c k) b.int)
    · rw [h5] at h3; simp at h3
    · rw [h5, belowB_or h5] at h3; simp at h3
  · have h4 := hlt h1
    have := size_le hr h4
    refine ⟨⟨k + 1, h4⟩, ⟨[], rfl, ⟨slot (i64_1 (n := k) (by omega)), slot ?_, rfl, rfl, rfl, rfl, rfl, rfl, rfl, rfl, trivial⟩, ⟨rfl, trivial⟩⟩, by show nC c - (k + 1) < nC c - k; omega⟩
    show IntKind.i64.wrap (sumF (sizeAt c) k + sizeAt c k) = sumF (sizeAt c) k + sizeAt c k
    rw [wrap_i64 (by omega) (by omega)]
  · show (true && plS c 18446744073709551615 == sumF (sizeAt c) k) = true
    have e := hge h1
    subst e
    rw [plS, hA, tbl_len, sumF_congr (g := sizeAt c) fun j hj => by rw [idx, hA, tbl_get _ hj]; rfl]
    simp
theorem csees_ok : SumOK Try.prog 11 sLawCS := sumOK_of_vc (c := cCSees) (ctxOK (.cons knownC_ok (.cons cfg_ok (.cons seesP_ok (.cons places_ok (.cons classP_ok (.cons has_ok .nil))))))) mixed Try.func11 rfl (by decide) @csees_fun
end Go.Proofs.Ytjcfnooplhoheaa
