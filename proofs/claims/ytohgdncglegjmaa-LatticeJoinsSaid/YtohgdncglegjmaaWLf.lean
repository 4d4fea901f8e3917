/- Accounts of families of labels: least and greatest bounds. -/
import Derived.Test.YtohgdncglegjmaaWLe
namespace Go.Proofs.Ytohgdncglegjmaa
open Go Go.Vm
set_option linter.unusedSimpArgs false
set_option linter.unusedVariables false
set_option maxRecDepth 10000
theorem below_or (x a b : Int) : belowB (orI a b) x = (belowB a x && belowB b x) := by
  rw [Bool.eq_iff_iff, Bool.and_eq_true, belowB_iff, belowB_iff, belowB_iff, show bv (orI a b) = bv a ||| bv b from bv_or a b]
  simp only [BitVec.getLsbD_or, Bool.or_eq_true]
  exact ⟨fun h => ⟨fun i hi k => h i hi (.inl k), fun i hi k => h i hi (.inr k)⟩, fun h i hi k => k.elim (h.1 i hi) (h.2 i hi)⟩
theorem below_and (x a b : Int) : belowB x (andI a b) = (belowB x a && belowB x b) := belowB_and x a b
theorem join_all (x : Int) : ∀ (l : List D) (a : Int), belowB (foldD orI a l) x = (belowB a x && l.all fun d => belowB d.int x)
  | [], a => by simp [foldD]
  | d :: l, a => by
    show belowB (foldD orI (orI a d.int) l) x = _
    rw [join_all x l, below_or, List.all_cons, Bool.and_assoc]
theorem meet_all (x : Int) : ∀ (l : List D) (a : Int), belowB x (foldD andI a l) = (belowB x a && l.all fun d => belowB x d.int)
  | [], a => by simp [foldD]
  | d :: l, a => by
    show belowB x (foldD andI (andI a d.int) l) = _
    rw [meet_all x l, below_and, List.all_cons, Bool.and_assoc]
theorem all_getD {p : Int → Bool} {l : List D} (h : (l.all fun d => p d.int) = true) {i : Nat} (hi : i < l.length) : p (l.getD i .Z).int = true :=
  List.all_eq_true.1 h _ (getD_mem hi)
theorem all_of {p : Int → Bool} {l : List D} (h : ∀ i, i < l.length → p (l.getD i .Z).int = true) : (l.all fun d => p d.int) = true := by
  rw [List.all_eq_true]; intro d hd
  obtain ⟨i, hi, rfl⟩ := mem_getD hd
  exact h i hi
def allTo (p : Int → Bool) (l : List D) (i : Nat) : Bool := (l.take i).all fun d => p d.int
theorem allTo_succ (p : Int → Bool) (l : List D) {i : Nat} (h : i < l.length) : allTo p l (i + 1) = (allTo p l i && p (l.getD i .Z).int) := by
  have e : l.take (i + 1) = l.take i ++ [l.getD i .Z] := by
    rw [List.take_add_one, List.getD_eq_getElem?_getD, List.getElem?_eq_getElem h]; rfl
  rw [allTo, e, List.all_append]; simp [allTo]
theorem belowB_0 (x : Int) : belowB 0 x = true := by
  rw [belowB_iff]
  intro i hi h
  have : bv 0 = 0#64 := rfl
  rw [this] at h
  simp at h
def cBo : Ctx := ⟨tabL, refsL, [(14, sJoin), (16, sMeet), (21, sBelN), (22, sHas), (9, sTrue)], [], keep, mpsL⟩
def sBounds : Sum := ⟨[.slice u64, u64, u64], fun _ => none, fun _ => .dat .bool (.B true)⟩
theorem bounds_fun : FunOK cBo 60 Try.f5 sBounds := fun l hl x hx y hy _ => by
  simp only [InR] at hl
  refine ⟨fun h1 => Bears.bool rfl, fun h1 => ?_⟩
  replace h1 : (ltB (l.list.length : Int) 1 || ltB 40 (l.list.length : Int)) = false := h1
  simp only [Bool.or_eq_false_iff, ltB_false] at h1
  have f0 : famE l.list.length = 0 := by rw [famE, if_neg (by omega)]
  have m0 : meetE l.list.length = 0 := by rw [meetE, if_neg (by omega), if_neg (by omega)]
  refine ⟨fun h2 => ?_, fun _ => ?_⟩
  · replace h2 : (famE l.list.length != 0 || meetE l.list.length != 0) = true := h2
    rw [f0, m0] at h2; cases h2
  obtain ⟨J, hJ⟩ : ∃ J, J = foldD orI 0 l.list := ⟨_, rfl⟩
  obtain ⟨M, hM⟩ : ∃ M, M = meetI l.list := ⟨_, rfl⟩
  have jA : ∀ z, belowB J z = l.list.all fun d => belowB d.int z := fun z => by rw [hJ, join_all, belowB_0, Bool.true_and]
  have mA : ∀ z, belowB z M = (belowB z (l.list.getD 0 .Z).int && l.list.all fun d => belowB z d.int) := fun z => by rw [hM, meetI, meet_all]
  have jI : ∀ i, i < l.list.length → belowB (l.list.getD i .Z).int J = true := fun i hi => all_getD (p := fun a => belowB a J) ((jA J).symm.trans (belowB_self J)) hi
  have mI : ∀ i, i < l.list.length → belowB M (l.list.getD i .Z).int = true := fun i hi => by
    have h := (mA M).symm.trans (belowB_self M)
    rw [Bool.and_eq_true] at h
    exact all_getD (p := fun a => belowB M a) h.2 hi
  refine ⟨{ i : Nat // i ≤ l.list.length }, 0, fun i => ([(13, .dat i64 (.I i.1)), (12, .dat .bool (.B (allTo (fun a => belowB x.int a) l.list i.1))), (11, .dat .bool (.B (allTo (fun a => belowB a x.int) l.list i.1))), (9, .dat u64 (.I M)), (7, .dat u64 (.I J)), (0, .dat (.slice u64) l), (1, .dat u64 (.I x.int)), (2, .dat u64 (.I y.int))], []), fun i => l.list.length - i.1,
    ⟨0, by omega⟩, ⟨[], rfl, ⟨rfl, rfl, rfl, slot (by rw [hM]; exact if_pos m0), slot (by rw [hJ]; exact if_pos f0), rfl, rfl, rfl, trivial⟩, trivial⟩, ?_⟩
  intro z
  obtain ⟨i, hi⟩ := z
  refine ⟨fun h2 => ?_, fun h2 => ?_⟩
  · have hlt : i < l.list.length := ltN h2
    have g1 : (0 : Int) ≤ (i : Int) := Int.natCast_nonneg i
    have g2 : (i : Int) < (l.list.length : Int) := Int.ofNat_lt.2 hlt
    refine ⟨⟨g1, g2⟩, fun _ => ⟨g1, g2⟩, fun h3 => ?_, fun _ => ⟨fun _ => ⟨g1, g2⟩, fun _ => ⟨g1, g2⟩, by kernel_rfl, ⟨i + 1, hlt⟩, ⟨[], rfl, ⟨slot (i64_1 (n := i) (by omega)), slotB ?_, slotB ?_, rfl, rfl, rfl, rfl, rfl, trivial⟩, trivial⟩, stepLt hlt⟩⟩
    · replace h3 : (!belowB (l.list.getD i .Z).int J || !belowB M (l.list.getD i .Z).int) = true := h3
      rw [jI i hlt, mI i hlt] at h3
      cases h3
    · exact (allTo_succ (fun a => belowB x.int a) l.list hlt).symm
    · exact (allTo_succ (fun a => belowB a x.int) l.list hlt).symm
  · have e := geN hi h2
    subst e
    refine ⟨fun h3 => ?_, fun _ => ?_⟩
    · replace h3 : (famE l.list.length != 0 || famE l.list.length != 0 || famE l.list.length != 0) = true := h3
      rw [f0] at h3; cases h3
    have tk : ∀ p : Int → Bool, allTo p l.list l.list.length = l.list.all fun d => p d.int := fun p => by rw [allTo, List.take_length]
    have nm : ∀ z k, k < l.list.length → hasI (numsN (badB z) l.list) (k : Int) = belowB (l.list.getD k .Z).int z := fun z k hk => by
      rw [numsN, if_pos f0, has_pick, okN_B hk]; simp [hk]
    refine ⟨{ i : Nat // i ≤ l.list.length }, 0, fun i => ([(18, .dat i64 (.I i.1)), (16, .dat (.slice i64) (.L (numsN (badB y.int) l.list))), (15, .dat (.slice i64) (.L (numsN (badB x.int) l.list))), (14, .dat (.slice i64) (.L (numsN (badB (andI x.int y.int)) l.list))),
      (12, .dat .bool (.B (l.list.all fun d => belowB x.int d.int))), (11, .dat .bool (.B (l.list.all fun d => belowB d.int x.int))), (9, .dat u64 (.I M)), (7, .dat u64 (.I J)), (0, .dat (.slice u64) l), (1, .dat u64 (.I x.int))], []), fun i => l.list.length - i.1,
      ⟨0, by omega⟩, ⟨[], rfl, ⟨rfl, rfl, rfl, rfl, slotB (tk _), slotB (tk _), rfl, rfl, rfl, rfl, trivial⟩, trivial⟩, ?_⟩
    intro z
    obtain ⟨k, hk⟩ := z
    refine ⟨fun h3 => ?_, fun h3 => ?_⟩
    · have hlt : k < l.list.length := ltN h3
      refine ⟨fun h4 => ?_, fun h4 => ?_⟩
      · replace h4 : (hasI (numsN (badB (andI x.int y.int)) l.list) (k : Int) != (hasI (numsN (badB x.int) l.list) (k : Int) && hasI (numsN (badB y.int) l.list) (k : Int))) = true := h4
        rw [nm _ k hlt, nm _ k hlt, nm _ k hlt, below_and] at h4
        simp at h4
      · exact ⟨⟨k + 1, hlt⟩, ⟨[], rfl, ⟨slot (i64_1 (n := k) (by omega)), rfl, rfl, rfl, rfl, rfl, rfl, rfl, rfl, rfl, trivial⟩, trivial⟩, stepLt hlt⟩
    · refine Bears.bool ?_
      show (((!(l.list.all fun d => belowB d.int x.int) || belowB J x.int) && (!(l.list.all fun d => belowB x.int d.int) || belowB x.int M)) && true) = true
      rw [jA, mA]
      have h5 : (l.list.all fun d => belowB x.int d.int) = true → belowB x.int (l.list.getD 0 .Z).int = true := fun h => all_getD (p := fun a => belowB x.int a) h (by omega)
      cases h6 : (l.list.all fun d => belowB x.int d.int)
      · cases (l.list.all fun d => belowB d.int x.int) <;> rfl
      · rw [h5 h6]
        cases (l.list.all fun d => belowB d.int x.int) <;> rfl
end Go.Proofs.Ytohgdncglegjmaa
