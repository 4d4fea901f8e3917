/- Accounts of families of labels: what both share. -/
import Derived.Test.YtohgdncglegjmaaWTs
import Derived.Test.YtohgdncglegjmaaWLp
import Derived.Test.YtohgdncglegjmaaWKa
import Derived.Test.YtohgdncglegjmaaProg
namespace Go.Proofs.Ytohgdncglegjmaa
open Go Go.Vm
set_option linter.unusedSimpArgs false
set_option linter.unusedVariables false
set_option maxRecDepth 10000
abbrev u64 : Sh := .int .u64
abbrev i64 : Sh := .int .i64
def tabL : List (Nat × Sh) := [(27, u64), (3, i64), (4, .bool), (22, .slice u64), (35, .slice i64), (24, i64), (5, .int .u8), (9, .str)]
def refsL : List (Nat × Value) := []
def mpsL : List (Nat × MI) := [(47, .map u64 .bool)]
def cL0 : Ctx := ⟨tabL, refsL, [], [], keep, mpsL⟩
theorem tabLOK : tabB Try.prog tabL = true := by kernel_rfl
theorem refsLOK : refsB Try.prog refsL = true := by kernel_rfl
theorem mpsLOK : mapsB Try.prog mpsL = true := by kernel_rfl
theorem mixed : Try.prog.follows .mixedOrders = true := by kernel_rfl
theorem ctxL {l : List (Nat × Sum)} (h : SumsOK Try.prog l) : CtxOK Try.prog ⟨tabL, refsL, l, [], keep, mpsL⟩ := CtxOK.of tabLOK refsLOK h FunsOK.nil mpsLOK
def belowB (a b : Int) : Bool := bitsOp .andNot .u64 a b == 0
def sBelow : Sum := ⟨[u64, u64], fun _ => none, fun
  | [a, b] => .dat .bool (.B (belowB a.int b.int))
  | _ => .und⟩
theorem below_fun : FunOK cL0 20 Try.f41 sBelow := fun _ _ _ _ _ => Bears.rfl
theorem atMost_fun : FunOK cL0 20 Try.f42 sBelow := fun _ _ _ _ _ => Bears.rfl
/-- The numbers, of those below n, with a property. -/
def pick (p : Nat → Bool) (n : Nat) : List D := ((List.range n).filter p).map fun (i : Nat) => D.I (i : Int)
theorem pick_succ (p : Nat → Bool) (n : Nat) : pick p (n + 1) = pick p n ++ if p n = true then [.I n] else [] := by
  simp only [pick, List.range_succ, List.filter_append, List.map_append]
  congr 1
  by_cases h : p n = true <;> simp [h]
theorem pick_len (p : Nat → Bool) (n : Nat) : (pick p n).length ≤ n := by
  simp only [pick, List.length_map]
  exact Nat.le_trans (List.length_filter_le _ _) (by simp)
def hasI (l : List D) (n : Int) : Bool := l.any fun d => d.int == n
theorem has_pick {p : Nat → Bool} : ∀ {n k : Nat}, hasI (pick p n) (k : Int) = (decide (k < n) && p k)
  | 0, k => by simp [pick, hasI]
  | n + 1, k => by
    have ih := has_pick (p := p) (n := n) (k := k)
    simp only [hasI] at ih ⊢
    rw [pick_succ, List.any_append, ih]
    by_cases e : k = n
    · subst e
      by_cases hp : p k = true <;> simp [hp]
    · by_cases hp : p n = true
      · simp only [hp, if_true, List.any_cons, List.any_nil, Bool.or_false, D.int_I]
        have : ((n : Int) == (k : Int)) = false := by rw [beq_eq_false_iff_ne]; omega
        rw [this, Bool.or_false]
        congr 1
        rw [decide_eq_decide]; omega
      · simp only [hp, Bool.false_eq_true, if_false, List.any_nil, Bool.or_false]
        congr 1
        rw [decide_eq_decide]; omega
abbrev bv (a : Int) : BitVec 64 := BitVec.ofInt 64 a
theorem wrap_bv (x : BitVec 64) : IntKind.u64.wrap (x.toNat : Int) = x.toNat := wrap_u64 (by omega) (by have := x.isLt; omega)
theorem bv_and (a b : Int) : bv (bitsOp .and .u64 a b) = bv a &&& bv b := by
  show BitVec.ofInt 64 (IntKind.u64.wrap ((bv a &&& bv b).toNat : Int)) = _
  rw [wrap_bv, BitVec.ofInt_natCast, BitVec.ofNat_toNat, BitVec.setWidth_eq]
theorem bv_or (a b : Int) : bv (bitsOp .or .u64 a b) = bv a ||| bv b := by
  show BitVec.ofInt 64 (IntKind.u64.wrap ((bv a ||| bv b).toNat : Int)) = _
  rw [wrap_bv, BitVec.ofInt_natCast, BitVec.ofNat_toNat, BitVec.setWidth_eq]
theorem belowB_iff (a b : Int) : belowB a b = true ↔ ∀ i, i < 64 → (bv a).getLsbD i = true → (bv b).getLsbD i = true := by
  show (IntKind.u64.wrap ((bv a &&& ~~~bv b).toNat : Int) == 0) = true ↔ _
  rw [wrap_bv]
  have e : ((((bv a &&& ~~~bv b).toNat : Nat) : Int) == 0) = true ↔ bv a &&& ~~~bv b = 0#64 := by
    rw [beq_iff_eq, ← BitVec.toNat_inj]
    simp
  rw [e]
  constructor
  · intro h i hi ha
    have := congrArg (fun x => x.getLsbD i) h
    simp only [BitVec.getLsbD_and, BitVec.getLsbD_not, ha, hi, decide_true, Bool.true_and, BitVec.getLsbD_zero, Bool.not_eq_false'] at this
    exact this
  · intro h
    apply BitVec.eq_of_getLsbD_eq
    intro i hi
    simp only [BitVec.getLsbD_and, BitVec.getLsbD_not, hi, decide_true, Bool.true_and, BitVec.getLsbD_zero]
    cases ha : (bv a).getLsbD i
    · rfl
    · rw [h i hi ha]; rfl
theorem belowB_and (x a b : Int) : belowB x (bitsOp .and .u64 a b) = (belowB x a && belowB x b) := by
  rw [Bool.eq_iff_iff, Bool.and_eq_true, belowB_iff, belowB_iff, belowB_iff, bv_and]
  simp only [BitVec.getLsbD_and, Bool.and_eq_true]
  exact ⟨fun h => ⟨fun i hi k => (h i hi k).1, fun i hi k => (h i hi k).2⟩, fun h i hi k => ⟨h.1 i hi k, h.2 i hi k⟩⟩
theorem belowB_or {x a b : Int} (h : (belowB x a || belowB x b) = true) : belowB x (bitsOp .or .u64 a b) = true := by
  rw [Bool.or_eq_true, belowB_iff, belowB_iff] at h
  rw [belowB_iff, bv_or]
  intro i hi k
  simp only [BitVec.getLsbD_or, Bool.or_eq_true]
  rcases h with h | h
  · exact .inl (h i hi k)
  · exact .inr (h i hi k)
theorem belowB_all1 (x : Int) : belowB x 18446744073709551615 = true := by
  rw [belowB_iff]
  intro i hi _
  have : bv 18446744073709551615 = BitVec.allOnes 64 := by decide
  rw [this, BitVec.getLsbD_allOnes]
  simpa using hi
theorem belowB_self (x : Int) : belowB x x = true := by
  rw [belowB_iff]; exact fun _ _ h => h
def sHas : Sum := ⟨[.slice i64, i64], fun _ => none, fun
  | [l, n] => .dat .bool (.B (hasI l.list n.int))
  | _ => .und⟩
theorem has_fun : FunOK cL0 60 Try.f22 sHas := fun l hl n hn _ => by
  simp only [InR] at hl
  have hl := hl.1
  refine ⟨{ i : Nat // i ≤ l.list.length ∧ ∀ k, k < i → ((l.list.getD k .Z).int == n.int) = false }, 0, fun i => ([(5, .dat i64 (.I i.1)), (0, .dat (.slice i64) l), (1, .dat i64 (.I n.int))], []), fun i => l.list.length - i.1,
    ⟨0, by omega, fun k h => by omega⟩, ⟨[], rfl, ⟨rfl, rfl, rfl, trivial⟩, trivial⟩, ?_⟩
  intro x
  obtain ⟨i, hi, h0⟩ := x
  have hlt : ltB (i : Int) (l.list.length : Int) = true → i < l.list.length := ltN
  refine ⟨fun h1 => ⟨ix (hlt h1), fun h2 => Bears.bool ?_, fun h2 => ?_⟩, fun h1 => Bears.bool ?_⟩
  · have hk := hlt h1
    replace h2 : ((l.list.getD i .Z).int == n.int) = true := h2
    show true = hasI l.list n.int
    symm
    rw [hasI, List.any_eq_true]
    refine ⟨l.list[i], List.getElem_mem hk, ?_⟩
    rw [List.getD_eq_getElem?_getD, List.getElem?_eq_getElem hk] at h2
    exact h2
  · have := hlt h1
    exact ⟨⟨i + 1, this, upto h0 h2⟩, ⟨[], rfl, ⟨slot (i64_1 (n := i) (by omega)), rfl, rfl, trivial⟩, trivial⟩, by show l.list.length - (i + 1) < l.list.length - i; omega⟩
  · have e : i = l.list.length := geN hi h1
    show false = hasI l.list n.int
    symm
    rw [hasI, List.any_eq_false]
    intro d hd
    obtain ⟨k, hk, rfl⟩ := List.getElem_of_mem hd
    have := h0 k (by omega)
    rw [List.getD_eq_getElem?_getD, List.getElem?_eq_getElem hk] at this
    simpa using this
theorem countP_lt {α : Type} {p q : α → Bool} {a : α} : ∀ {l : List α}, a ∈ l → (∀ b, p b = true → q b = true) → q a = true → p a = false → l.countP p < l.countP q
  | [], h, _, _, _ => by cases h
  | b :: l, h, hpq, hq, hp => by
    have le : l.countP p ≤ l.countP q := List.countP_mono_left fun q _ => hpq q
    rw [List.countP_cons, List.countP_cons]
    rcases List.mem_cons.1 h with e | h
    · subst e
      rw [hq, hp]; simp only [Bool.false_eq_true, if_false, if_true]; omega
    · have := countP_lt h hpq hq hp
      by_cases h3 : p b = true
      · rw [if_pos h3, if_pos (hpq b h3)]; omega
      · rw [if_neg h3]; split <;> omega
/-- How many of n places were not seen. -/
def leftN (n : Nat) (s : List Nat) : Nat := (List.range n).countP fun i => !s.contains i
theorem leftN_lt {n i : Nat} {s : List Nat} (hi : i < n) (h : i ∉ s) : leftN n (i :: s) < leftN n s := by
  refine countP_lt (a := i) (by simpa using hi) (fun b hb => ?_) (by simpa [List.contains_eq_mem] using h) (by simp)
  simp only [List.contains_eq_mem, List.mem_cons, Bool.not_eq_true', decide_eq_false_iff_not, not_or] at hb ⊢
  exact hb.2
structure SeenI (n : Nat) (s : List Nat) : Prop where
  nd : s.Nodup
  lt : ∀ i, i ∈ s → i < n
theorem SeenI.nil {n : Nat} : SeenI n [] := ⟨by simp, fun _ h => by cases h⟩
theorem SeenI.add {n i : Nat} {s : List Nat} (h : SeenI n s) (hi : i < n) (hn : i ∉ s) : SeenI n (i :: s) := by
  refine ⟨List.nodup_cons.2 ⟨hn, h.nd⟩, fun k hk => ?_⟩
  rcases List.mem_cons.1 hk with h1 | h1
  · subst h1; exact hi
  · exact h.lt k h1
theorem SeenI.all {n : Nat} {s : List Nat} (h : SeenI n s) (ha : ∀ i, i < n → i ∈ s) : s.Perm (List.range n) :=
  (List.perm_ext_iff_of_nodup h.nd List.nodup_range).2 fun i => by rw [List.mem_range]; exact ⟨h.lt i, ha i⟩
theorem SeenI.len {n : Nat} {s : List Nat} (h : SeenI n s) : s.length ≤ n := by
  have h1 : ∀ {n : Nat} {s : List Nat}, s.Nodup → (∀ i, i ∈ s → i < n) → s.length ≤ n := by
    intro n
    induction n with
    | zero => intro s _ h; cases s with
      | nil => simp
      | cons a s => exact absurd (h a (by simp)) (by omega)
    | succ n ih =>
      intro s hn hl
      have h2 := ih (s := s.erase n) (hn.erase n) fun i hi => by
        have h3 := hl i (List.mem_of_mem_erase hi)
        have h4 : i ≠ n := fun e => by subst e; exact (hn.not_mem_erase) hi
        omega
      have h5 := List.length_erase_of_mem (a := n) (l := s)
      by_cases hm : n ∈ s
      · have := h5 hm; omega
      · rw [List.erase_of_not_mem hm] at h2; omega
  exact h1 h.nd h.lt
theorem map_range_getD (R : List Int) : (List.range R.length).map (fun i => R.getD i 0) = R := by
  apply List.ext_getElem
  · simp
  · intro i h1 h2
    rw [List.getElem_map, List.getElem_range]
    simp [List.getD_eq_getElem?_getD, List.getElem?_eq_getElem h2]
theorem SeenI.perm {R : List Int} {s : List Nat} (h : SeenI R.length s) (ha : ∀ i, i < R.length → i ∈ s) : (s.map fun i => R.getD i 0).Perm R := by
  have := (h.all ha).map fun i => R.getD i 0
  rwa [map_range_getD] at this
def famE (n : Nat) : Int := if 64 < n then 6 else 0
def sFam : Sum := ⟨[.slice u64], fun _ => none, fun
  | [l] => .dat i64 (.I (famE l.list.length))
  | _ => .und⟩
theorem fam_fun : FunOK cL0 20 Try.f33 sFam := fun l hl _ => by
  refine ⟨fun h1 => Bears.int ?_, fun h1 => Bears.int ?_⟩
  all_goals replace h1 : ltB 64 (l.list.length : Int) = _ := h1
  · simp only [ltB_true] at h1
    show (6 : Int) = famE l.list.length
    rw [famE, if_pos (by omega)]
  · simp only [ltB_false] at h1
    show (0 : Int) = famE l.list.length
    rw [famE, if_neg (by omega)]
theorem famR_fun : FunOK cL0 20 Try.f38 sFam := fun l hl _ => by
  refine ⟨fun h1 => Bears.int ?_, fun h1 => Bears.int ?_⟩
  all_goals replace h1 : ltB 64 (l.list.length : Int) = _ := h1
  · simp only [ltB_true] at h1
    show (6 : Int) = famE l.list.length
    rw [famE, if_pos (by omega)]
  · simp only [ltB_false] at h1
    show (0 : Int) = famE l.list.length
    rw [famE, if_neg (by omega)]
def foldD (f : Int → Int → Int) (a : Int) (l : List D) : Int := l.foldl (fun s d => f s d.int) a
theorem foldD_take (f : Int → Int → Int) (a : Int) (l : List D) {i : Nat} (h : i < l.length) : foldD f a (l.take (i + 1)) = f (foldD f a (l.take i)) (l.getD i .Z).int := by
  have e : l.take (i + 1) = l.take i ++ [l.getD i .Z] := by
    rw [List.take_add_one, List.getD_eq_getElem?_getD, List.getElem?_eq_getElem h]; rfl
  rw [foldD, e, List.foldl_append]; rfl
def orI (a b : Int) : Int := bitsOp .or .u64 a b
def andI (a b : Int) : Int := bitsOp .and .u64 a b
noncomputable def cJn : Ctx := ⟨tabL, refsL, [(33, sFam)], [(39, Try.f39), (56, Try.f56), (40, Try.f40)], keep, mpsL⟩
def sJoin0 : Sum := ⟨[.slice u64], fun _ => none, fun
  | [l] => .dat u64 (.I (foldD orI 0 l.list))
  | _ => .und⟩
theorem join0_fun : FunOK cJn 40 Try.f37 sJoin0 := fun l hl _ => by
  simp only [InR] at hl
  have hl := hl.1
  refine ⟨{ i : Nat // i ≤ l.list.length }, 0, fun i => ([(11, .dat i64 (.I i.1)), (10, .dat i64 (.I l.list.length)), (9, .dat (.slice u64) l), (0, .dat u64 (.I (foldD orI 0 (l.list.take i.1)))), (1, .fn 56 [])], []), fun i => l.list.length - i.1,
    ⟨0, by omega⟩, ⟨[], rfl, ⟨rfl, rfl, rfl, rfl, rfl, trivial⟩, trivial⟩, ?_⟩
  intro x
  obtain ⟨i, hi⟩ := x
  refine ⟨fun h1 => ⟨ix (ltN h1), ⟨⟨i + 1, ltN h1⟩, ⟨[], rfl, ⟨slot (i64_1 (n := i) (by have h : i < l.list.length := ltN h1; omega)), rfl, rfl, slot ?_, rfl, trivial⟩, trivial⟩, stepLt (ltN h1)⟩⟩, fun h1 => Bears.int ?_⟩
  · exact (foldD_take orI 0 l.list (ltN h1)).symm
  · have e := geN hi h1
    subst e
    show foldD orI 0 (l.list.take l.list.length) = foldD orI 0 l.list
    rw [List.take_length]
def sJoin : Sum := ⟨[.slice u64], fun _ => none, fun
  | [l] => .tup [.dat u64 (.I (if famE l.list.length = 0 then foldD orI 0 l.list else 0)), .dat i64 (.I (famE l.list.length))]
  | _ => .und⟩
def cJo : Ctx := ⟨tabL, refsL, [(33, sFam), (38, sFam), (37, sJoin0), (41, sBelow), (42, sBelow)], [], keep, mpsL⟩
theorem ifT {p : Prop} [Decidable p] {a b c : Int} (h : p) (e : c = a) : c = if p then a else b := by rw [if_pos h]; exact e
theorem ifF {p : Prop} [Decidable p] {a b c : Int} (h : ¬p) (e : c = b) : c = if p then a else b := by rw [if_neg h]; exact e
theorem bneT {a b : Int} (h : (a != b) = true) : a ≠ b := by simpa using h
theorem bneF {a b : Int} (h : (a != b) = false) : a = b := by simpa using h
theorem joinU_fun : FunOK cJo 40 Try.f14 sJoin := fun l hl _ => by
  refine ⟨fun h1 => ⟨Bears.int (ifF (bneT h1) rfl), Bears.int rfl, trivial⟩, fun h1 => ⟨Bears.int (ifT (bneF h1) rfl), Bears.int (bneF h1).symm, trivial⟩⟩
theorem joinR_fun : FunOK cJo 40 Try.f15 sJoin := fun l hl _ => by
  simp only [InR] at hl
  have hl := hl.1
  refine ⟨fun h1 => ⟨Bears.int (ifF (bneT h1) rfl), Bears.int rfl, trivial⟩, fun h1 => ?_⟩
  replace h1 : famE l.list.length = 0 := bneF h1
  refine ⟨{ i : Nat // i ≤ l.list.length }, 0, fun i => ([(6, .dat i64 (.I i.1)), (5, .dat u64 (.I (foldD orI 0 (l.list.take i.1)))), (0, .dat (.slice u64) l)], []), fun i => l.list.length - i.1,
    ⟨0, by omega⟩, ⟨[], rfl, ⟨rfl, rfl, rfl, trivial⟩, trivial⟩, ?_⟩
  intro x
  obtain ⟨i, hi⟩ := x
  refine ⟨fun h2 => ⟨ix (ltN h2), ⟨⟨i + 1, ltN h2⟩, ⟨[], rfl, ⟨slot (i64_1 (n := i) (by have h : i < l.list.length := ltN h2; omega)), slot ?_, rfl, trivial⟩, trivial⟩, stepLt (ltN h2)⟩⟩, fun h2 => ⟨Bears.int (ifT h1 ?_), Bears.int h1.symm, trivial⟩⟩
  · exact (foldD_take orI 0 l.list (ltN h2)).symm
  · have e := geN hi h2
    subst e
    show foldD orI 0 (l.list.take l.list.length) = foldD orI 0 l.list
    rw [List.take_length]
def meetE (n : Nat) : Int := if 64 < n then 6 else if n = 0 then 7 else 0
def meetI (l : List D) : Int := foldD andI (l.getD 0 .Z).int l
theorem and_self {a : Int} (h : IntKind.u64.min ≤ a ∧ a ≤ IntKind.u64.max) : andI a a = a := by
  have h1 : 0 ≤ a ∧ a ≤ 18446744073709551615 := h
  show IntKind.u64.wrap ((BitVec.ofInt 64 a &&& BitVec.ofInt 64 a).toNat : Int) = a
  rw [BitVec.and_self, BitVec.toNat_ofInt]
  have : (a % ((2 ^ 64 : Nat) : Int)) = a := Int.emod_eq_of_lt h1.1 (by omega)
  rw [this, Int.toNat_of_nonneg h1.1]
  exact wrap_u64 h1.1 h1.2
def sMeet : Sum := ⟨[.slice u64], fun _ => none, fun
  | [l] => .tup [.dat u64 (.I (if meetE l.list.length = 0 then meetI l.list else 0)), .dat i64 (.I (meetE l.list.length))]
  | _ => .und⟩
theorem meetE_1 {n : Nat} (h : (famE n == 0 && (n : Int) == 0) = true) : meetE n = 7 := by
  simp only [Bool.and_eq_true, beq_iff_eq] at h
  rw [meetE, if_neg (by omega), if_pos (by omega)]
theorem meetE_2 {n : Nat} (h : (famE n == 0 && (n : Int) == 0) = false) : meetE n = famE n := by
  simp only [Bool.and_eq_false_iff, beq_eq_false_iff_ne, ne_eq] at h
  rw [meetE, famE]
  rw [famE] at h
  split
  · rfl
  · rename_i h2
    rw [if_neg h2] at h
    rw [if_neg (by omega)]
theorem meetE_0 {n : Nat} (h : (famE n == 0 && (n : Int) == 0) = false) (h2 : (famE n != 0) = false) : meetE n = 0 ∧ 0 < n := by
  have e := meetE_2 h
  have h2 := bneF h2
  refine ⟨by rw [e, h2], ?_⟩
  rw [h2] at h
  simp only [beq_self_eq_true, Bool.true_and, beq_eq_false_iff_ne, ne_eq] at h
  omega
theorem meetU_fun : FunOK cJn 40 Try.f16 sMeet := fun l hl _ => by
  simp only [InR] at hl
  have hl := hl.1
  refine ⟨fun h1 => ⟨fun h2 => ⟨Bears.int (ifF ?_ rfl), Bears.int (meetE_1 h1).symm, trivial⟩, fun h2 => (by cases h2)⟩, fun h1 => ⟨fun h2 => ⟨Bears.int (ifF ?_ rfl), Bears.int (meetE_2 h1).symm, trivial⟩, fun h2 => ⟨⟨Int.le_refl _, ?_⟩, ?_⟩⟩⟩
  · rw [meetE_1 h1]; decide
  · rw [meetE_2 h1]; exact bneT h2
  · have h := (meetE_0 h1 h2).2
    show (0 : Int) < (l.list.length : Int)
    omega
  obtain ⟨h0, hp⟩ := meetE_0 h1 h2
  refine ⟨{ i : Nat // i ≤ l.list.length }, 0, fun i => ([(11, .dat i64 (.I i.1)), (10, .dat i64 (.I l.list.length)), (9, .dat (.slice u64) l), (0, .dat u64 (.I (foldD andI (l.list.getD 0 .Z).int (l.list.take i.1)))), (1, .fn 40 [])], []), fun i => l.list.length - i.1,
    ⟨0, by omega⟩, ⟨[], rfl, ⟨rfl, rfl, rfl, rfl, rfl, trivial⟩, trivial⟩, ?_⟩
  intro x
  obtain ⟨i, hi⟩ := x
  refine ⟨fun h3 => ⟨ix (ltN h3), ⟨⟨i + 1, ltN h3⟩, ⟨[], rfl, ⟨slot (i64_1 (n := i) (by have h : i < l.list.length := ltN h3; omega)), rfl, rfl, slot ?_, rfl, trivial⟩, trivial⟩, stepLt (ltN h3)⟩⟩, fun h3 => ⟨Bears.int (ifT h0 ?_), Bears.int h0.symm, trivial⟩⟩
  · exact (foldD_take andI _ l.list (ltN h3)).symm
  · have e := geN hi h3
    subst e
    show foldD andI _ (l.list.take l.list.length) = foldD andI _ l.list
    rw [List.take_length]
theorem meetR_fun : FunOK cJo 40 Try.f17 sMeet := fun l hl _ => by
  simp only [InR] at hl
  refine ⟨fun h1 => ⟨fun h2 => ⟨Bears.int (ifF ?_ rfl), Bears.int (meetE_1 h1).symm, trivial⟩, fun h2 => (by cases h2)⟩, fun h1 => ⟨fun h2 => ⟨Bears.int (ifF ?_ rfl), Bears.int (meetE_2 h1).symm, trivial⟩, fun h2 => ⟨⟨Int.le_refl _, ?_⟩, ?_⟩⟩⟩
  · rw [meetE_1 h1]; decide
  · rw [meetE_2 h1]; exact bneT h2
  · have h := (meetE_0 h1 h2).2
    show (0 : Int) < (l.list.length : Int)
    omega
  obtain ⟨h0, hp⟩ := meetE_0 h1 h2
  refine ⟨{ i : Nat // 1 ≤ i ∧ i ≤ l.list.length }, 0, fun i => ([(6, .dat i64 (.I i.1)), (5, .dat u64 (.I (foldD andI (l.list.getD 0 .Z).int (l.list.take i.1)))), (0, .dat (.slice u64) l)], []), fun i => l.list.length - i.1,
    ⟨1, by omega, by omega⟩, ⟨[], rfl, ⟨rfl, slot ?_, rfl, trivial⟩, trivial⟩, ?_⟩
  · have := foldD_take andI (l.list.getD 0 .Z).int l.list hp
    rw [this]
    exact (and_self (hl.2 0 hp)).symm
  have hl := hl.1
  intro x
  obtain ⟨i, hi1, hi⟩ := x
  refine ⟨fun h3 => ⟨ix (ltN h3), ⟨⟨i + 1, by omega, ltN h3⟩, ⟨[], rfl, ⟨slot (i64_1 (n := i) (by have h : i < l.list.length := ltN h3; omega)), slot ?_, rfl, trivial⟩, trivial⟩, stepLt (ltN h3)⟩⟩, fun h3 => ⟨Bears.int (ifT h0 ?_), Bears.int h0.symm, trivial⟩⟩
  · exact (foldD_take andI _ l.list (ltN h3)).symm
  · have e := geN hi h3
    subst e
    show foldD andI _ (l.list.take l.list.length) = foldD andI _ l.list
    rw [List.take_length]
/-- Labels are joined until x is below what they come to. -/
def covA (l : List D) (x : Int) : Int → Int := l.foldr (fun d k a => if belowB x a = true then a else k (orI a d.int)) id
theorem covA_stop {l : List D} {x a : Int} (h : belowB x a = true) : covA l x a = a := by
  cases l
  · rfl
  · simp only [covA, List.foldr_cons]; rw [if_pos h]
theorem covA_go {l : List D} {x a : Int} {i : Nat} (hi : i < l.length) (h : belowB x a = false) : covA (l.drop i) x a = covA (l.drop (i + 1)) x (orI a (l.getD i .Z).int) := by
  rw [List.drop_eq_getElem_cons hi, covA, List.foldr_cons, if_neg (by simp [h]), List.getD_eq_getElem?_getD, List.getElem?_eq_getElem hi]; rfl
theorem below_orL {x a b : Int} (h : belowB x a = true) : belowB x (orI a b) = true := belowB_or (by rw [h]; rfl)
theorem below_fold {x : Int} : ∀ {l : List D} {a : Int}, belowB x a = true → belowB x (foldD orI a l) = true
  | [], _, h => h
  | d :: l, a, h => below_fold (l := l) (a := orI a d.int) (below_orL h)
theorem covA_fold {x : Int} : ∀ {l : List D} {a : Int}, belowB x (covA l x a) = belowB x (foldD orI a l)
  | [], _ => rfl
  | d :: l, a => by
    by_cases h : belowB x a = true
    · rw [covA_stop h, below_fold h, h]
    · have h' : belowB x a = false := by simpa using h
      show belowB x (if belowB x a = true then a else covA l x (orI a d.int)) = belowB x (foldD orI (orI a d.int) l)
      rw [if_neg h]
      exact covA_fold
def covE (l : List D) (x : Int) : Int := if famE l.length = 0 then (if belowB x (foldD orI 0 l) = true then 0 else 13) else famE l.length
def sCover : Sum := ⟨[.slice u64, u64], fun _ => none, fun
  | [l, x] => .tup [.dat u64 (.I (if covE l.list x.int = 0 then covA l.list x.int 0 else 0)), .dat i64 (.I (covE l.list x.int))]
  | _ => .und⟩
theorem covE_1 {l : List D} {x : Int} (h : (famE l.length == 0 && !belowB x (foldD orI 0 l)) = true) : covE l x = 13 := by
  simp only [Bool.and_eq_true, beq_iff_eq, Bool.not_eq_true'] at h
  rw [covE, if_pos h.1, if_neg (by simp [h.2])]
theorem covE_2 {l : List D} {x : Int} (h : (famE l.length == 0 && !belowB x (foldD orI 0 l)) = false) : covE l x = famE l.length := by
  rw [covE]
  split
  · rename_i h2
    rw [h2] at h
    simp only [beq_self_eq_true, Bool.true_and, Bool.not_eq_false'] at h
    rw [if_pos h, h2]
  · rfl
theorem coverU_fun : FunOK cJo 40 Try.f18 sCover := fun l hl x hx _ => by
  simp only [InR] at hl
  have hl := hl.1
  refine ⟨fun h1 => ?_, fun h1 => ?_⟩
  · replace h1 : (famE l.list.length == 0 && !belowB x.int (foldD orI 0 l.list)) = true := h1
    refine ⟨fun h2 => ⟨Bears.int (ifF ?_ rfl), Bears.int (covE_1 h1).symm, trivial⟩, fun h2 => (by cases h2)⟩
    rw [covE_1 h1]; decide
  replace h1 : (famE l.list.length == 0 && !belowB x.int (foldD orI 0 l.list)) = false := h1
  refine ⟨fun h2 => ⟨Bears.int (ifF ?_ rfl), Bears.int (covE_2 h1).symm, trivial⟩, fun h2 => ?_⟩
  · rw [covE_2 h1]; exact bneT h2
  have h0 : covE l.list x.int = 0 := by rw [covE_2 h1]; exact bneF h2
  refine ⟨{ z : Nat × Int // z.1 ≤ l.list.length ∧ covA (l.list.drop z.1) x.int z.2 = covA l.list x.int 0 }, 0, fun z => ([(26, .dat i64 (.I z.1.1)), (25, .dat i64 (.I l.list.length)), (24, .dat (.slice u64) l), (7, .dat u64 (.I z.1.2)), (1, .dat u64 (.I x.int))], []), fun z => l.list.length - z.1.1,
    ⟨(0, 0), by omega, rfl⟩, ⟨[], rfl, ⟨rfl, rfl, rfl, rfl, rfl, trivial⟩, trivial⟩, ?_⟩
  intro z
  obtain ⟨⟨i, a⟩, hi, ha⟩ := z
  simp only at hi ha
  refine ⟨fun h3 => ⟨ix (ltN h3), fun h4 => ⟨Bears.int (ifT h0 ?_), Bears.int h0.symm, trivial⟩, fun h4 => ?_⟩, fun h3 => ⟨Bears.int (ifT h0 ?_), Bears.int h0.symm, trivial⟩⟩
  · exact (covA_stop h4).symm.trans ha
  · have h : i < l.list.length := ltN h3
    exact ⟨⟨(i + 1, orI a (l.list.getD i .Z).int), h, (covA_go h h4).symm.trans ha⟩, ⟨[], rfl, ⟨slot (i64_1 (n := i) (by omega)), rfl, rfl, rfl, rfl, trivial⟩, trivial⟩, stepLt h⟩
  · have e := geN hi h3
    subst e
    rw [List.drop_length] at ha
    exact ha
theorem coverR_fun : FunOK cJo 40 Try.f19 sCover := fun l hl x hx _ => by
  simp only [InR] at hl
  have hl := hl.1
  refine ⟨fun h1 => ?_, fun h1 => ?_⟩
  · replace h1 : famE l.list.length ≠ 0 := bneT h1
    have e : covE l.list x.int = famE l.list.length := by rw [covE, if_neg h1]
    exact ⟨Bears.int (ifF (by rw [e]; exact h1) rfl), Bears.int e.symm, trivial⟩
  have h0 : famE l.list.length = 0 := bneF h1
  refine ⟨{ z : Nat × Int // z.1 ≤ l.list.length ∧ covA (l.list.drop z.1) x.int z.2 = covA l.list x.int 0 }, 0, fun z => ([(8, .dat i64 (.I z.1.1)), (7, .dat u64 (.I z.1.2)), (0, .dat (.slice u64) l), (1, .dat u64 (.I x.int))], []), fun z => l.list.length - z.1.1,
    ⟨(0, 0), by omega, rfl⟩, ⟨[], rfl, ⟨rfl, rfl, rfl, rfl, trivial⟩, trivial⟩, ?_⟩
  intro z
  obtain ⟨⟨i, a⟩, hi, ha⟩ := z
  simp only at hi ha
  refine ⟨fun h3 => ?_, fun h3 => ?_⟩
  · replace h3 : (ltB (i : Int) (l.list.length : Int) && !belowB x.int a) = true := h3
    rw [Bool.and_eq_true, Bool.not_eq_true'] at h3
    have h : i < l.list.length := ltN h3.1
    exact ⟨ix h, ⟨(i + 1, orI a (l.list.getD i .Z).int), h, (covA_go h h3.2).symm.trans ha⟩, ⟨[], rfl, ⟨slot (i64_1 (n := i) (by omega)), rfl, rfl, rfl, trivial⟩, trivial⟩, stepLt h⟩
  replace h3 : (ltB (i : Int) (l.list.length : Int) && !belowB x.int a) = false := h3
  have hc : covA l.list x.int 0 = a := by
    rw [Bool.and_eq_false_iff, Bool.not_eq_false'] at h3
    rcases h3 with h3 | h3
    · have e := geN hi h3
      subst e
      rw [List.drop_length] at ha
      exact ha.symm
    · exact ha.symm.trans (covA_stop h3)
  have hb : belowB x.int (foldD orI 0 l.list) = belowB x.int a := by rw [← hc]; exact covA_fold.symm
  refine ⟨fun h4 => ?_, fun h4 => ?_⟩
  · replace h4 : (!belowB x.int a) = true := h4
    have e : covE l.list x.int = 13 := by rw [covE, if_pos h0, hb, if_neg (by simpa using h4)]
    exact ⟨Bears.int (ifF (by rw [e]; decide) rfl), Bears.int e.symm, trivial⟩
  · replace h4 : (!belowB x.int a) = false := h4
    have e : covE l.list x.int = 0 := by rw [covE, if_pos h0, hb, if_pos (by simpa using h4)]
    exact ⟨Bears.int (ifT e hc.symm), Bears.int e.symm, trivial⟩
end Go.Proofs.Ytohgdncglegjmaa
