/- Accounts of families of labels: orders, examples. -/
import Derived.Test.YtohgdncglegjmaaWLn
import Derived.Test.YtohgdncglegjmaaWLg
namespace Go.Proofs.Ytohgdncglegjmaa
open Go Go.Vm
set_option linter.unusedSimpArgs false
set_option linter.unusedVariables false
set_option maxRecDepth 10000
def cOr : Ctx := ⟨tabL, refsL, [(13, cloneS), (12, sSameI u64), (28, sSameI i64), (9, sTrue),
  (21, sBelN), (27, sBelN), (23, sNum lessI), (29, sNum lessI), (24, sNum lessR), (30, sNum lessR),
  (25, sChain), (31, sChain), (26, sHgt), (32, sHgt)], [], keep, mpsL⟩
def sOrders : Sum := ⟨[.slice u64, u64], fun _ => none, fun _ => .dat .bool (.B true)⟩
theorem noS {a : List D} {e : Int} (h : (!sameI a a || e != e) = true) : False := by
  rw [sameI_rfl] at h; simp at h
theorem noB {a : Bool} {e : Int} (h : (a != a || e != e) = true) : False := by
  cases a <;> simp at h
theorem orders_fun : FunOK cOr 60 Try.f7 sOrders := fun l hl x hx _ => by
  refine ⟨fun h1 => Bears.bool rfl, fun h1 => ⟨?_, fun h2 => (noS h2).elim, fun h2 => ⟨fun h3 => (noS h3).elim, fun h3 => ⟨fun h4 => (noS h4).elim, fun h4 => ⟨fun h5 => (noB h5).elim, fun h5 => Bears.bool ?_⟩⟩⟩⟩⟩
  · replace h1 : ltB 70 (l.list.length : Int) = false := h1
    simp only [ltB_false] at h1
    show l.list.length ≤ 1073741824
    omega
  · show (hgtI l.list == hgtI l.list && famE l.list.length == famE l.list.length && sameI l.list l.list && true) = true
    rw [sameI_rfl]; simp
def cKn : Ctx := ⟨tabL, refsL, [(12, sSameI u64), (28, sSameI i64), (9, sTrue),
  (14, sJoin), (16, sMeet), (21, sBelN), (23, sNum lessI), (24, sNum lessR), 
  (25, sChain), (26, sHgt), (10, sCloB 12), (18, sCover)], [], keep, mpsL⟩
def sKnown : Sum := ⟨[], fun _ => none, fun _ => .dat .bool (.B true)⟩
theorem keyEq {s : Nat} {p b : Bool} (h : b = p) : KeyCond [(s, p, b)] := h
theorem known_fun : FunOK cKn 60 Try.f8 sKnown := fun _ => by
  refine ⟨fun h1 => (notSo (by kernel_rfl) h1).elim, fun h1 => ⟨keyEq (by kernel_rfl), trivial, keyEq (by kernel_rfl), trivial, fun h2 => (notSo (by kernel_rfl) h2).elim, fun h2 => ⟨fun h3 => (notSo (by kernel_rfl) h3).elim, fun h3 => ⟨Or.inl (Nat.le_of_ble_eq_true (by kernel_rfl)), Or.inl (Nat.le_of_ble_eq_true (by kernel_rfl)), fun h4 => (notSo (by kernel_rfl) h4).elim, fun h4 => Bears.bool (by kernel_rfl)⟩⟩⟩⟩
def cEn : Ctx := ⟨tabL, refsL, [(9, sTrue), (23, sNum lessI), (24, sNum lessR), 
  (25, sChain), (26, sHgt), (22, sHas)], [], keep, mpsL⟩
def sEnds : Sum := ⟨[.slice u64], fun _ => none, fun _ => .dat .bool (.B true)⟩
def anyTo (p : Nat → Bool) (k : Nat) : Bool := (List.range k).any p
theorem anyTo_succ (p : Nat → Bool) (k : Nat) : anyTo p (k + 1) = (anyTo p k || p k) := by
  rw [anyTo, List.range_succ, List.any_append]; simp [anyTo]
def allToN (p : Nat → Bool) (k : Nat) : Bool := (List.range k).all p
theorem allToN_succ (p : Nat → Bool) (k : Nat) : allToN p (k + 1) = (allToN p k && p k) := by
  rw [allToN, List.range_succ, List.all_append]; simp [allToN]
theorem any_yes {p : Nat → Bool} {n k : Nat} (hk : k < n) (h : p k = true) : anyTo p n = true := by
  rw [anyTo, List.any_eq_true]; exact ⟨k, by simpa using hk, h⟩
theorem has_nums {bad : Int → Int → Bool} {l : List D} (h0 : famE l.length = 0) {k : Nat} (hk : k < l.length) : hasI (numsN bad l) (k : Int) = okN bad l k := by
  rw [numsN, if_pos h0, has_pick]; simp [hk]
theorem first_is {l : List D} {i : Nat} (hi : i < l.length) : allToN (fun k => leB (i : Int) (k : Int) || (l.getD k .Z).int != (l.getD i .Z).int) l.length = !(ddp (ints (l.take i))).contains (l.getD i .Z).int := by
  rw [Bool.eq_iff_iff, Bool.not_eq_true', allToN, List.all_eq_true]
  have hm : (l.getD i .Z).int ∈ ddp (ints (l.take i)) ↔ ∃ k, k < i ∧ (l.getD k .Z).int = (l.getD i .Z).int := by
    rw [ddp_mem]
    constructor
    · intro h
      obtain ⟨k, hk, h⟩ := mem_ints h
      rw [List.length_take] at hk
      refine ⟨k, by omega, ?_⟩
      rw [← h, List.getD_eq_getElem?_getD, List.getD_eq_getElem?_getD, List.getElem?_take_of_lt (by omega)]
    · rintro ⟨k, hk, h⟩
      rw [← h]
      have := ints_mem (l := l.take i) (i := k) (by rw [List.length_take]; omega)
      rwa [List.getD_eq_getElem?_getD, List.getElem?_take_of_lt hk, ← List.getD_eq_getElem?_getD] at this
  constructor
  · intro h
    rw [← Bool.not_eq_true, List.contains_iff_mem, hm]
    rintro ⟨k, hk, e⟩
    have := h k (by simpa using Nat.lt_trans hk hi)
    rw [Bool.or_eq_true] at this
    rcases this with h1 | h1
    · simp only [leB_true] at h1; omega
    · rw [e] at h1; simp at h1
  · intro h k hk
    rw [← Bool.not_eq_true, List.contains_iff_mem, hm] at h
    rw [Bool.or_eq_true]
    by_cases hik : i ≤ k
    · left; simp only [leB_true]; omega
    · right; rw [bne_iff_ne]; exact fun e => h ⟨k, by omega, e⟩
theorem addI_count {R : List Int} {x : Int} : (addI R x).length = if (!R.contains x) = true then R.length + 1 else R.length := by
  rw [addI]
  cases h : R.contains x <;> simp
theorem ends_fun : FunOK cEn 60 Try.f6 sEnds := fun l hl _ => by
  simp only [InR] at hl
  refine ⟨fun h1 => Bears.bool rfl, fun h1 => ?_⟩
  replace h1 : ltB 30 (l.list.length : Int) = false := h1
  simp only [ltB_false] at h1
  have f0 : famE l.list.length = 0 := by rw [famE, if_neg (by omega)]
  have hU : ∀ y, y ∈ ints l.list → InU y := fun y hy => by
    obtain ⟨i, hi, rfl⟩ := mem_ints hy
    exact hl.2 i hi
  refine ⟨fun h2 => ?_, fun _ => ?_⟩
  · replace h2 : (famE l.list.length != 0 || famE l.list.length != 0 || famE l.list.length != 0 || famE l.list.length != 0) = true := h2
    rw [f0] at h2; cases h2
  refine ⟨{ i : Nat // i ≤ l.list.length }, 0, fun i => ([(12, .dat i64 (.I i.1)), (11, .dat i64 (.I ((ddp (ints (l.list.take i.1))).length : Nat))), (9, .dat i64 (.I (hgtI l.list))), (7, .dat .bool (.B (chainB l.list))), (5, .dat (.slice i64) (.L (numsN lessR l.list))), (3, .dat (.slice i64) (.L (numsN lessI l.list))), (0, .dat (.slice u64) l)], []), fun i => l.list.length - i.1,
    ⟨0, by omega⟩, ⟨[], rfl, ⟨rfl, rfl, rfl, rfl, rfl, rfl, rfl, trivial⟩, trivial⟩, ?_⟩
  intro z
  obtain ⟨i, hi⟩ := z
  refine ⟨fun h2 => ?_, fun h2 => ?_⟩
  · have hlt : i < l.list.length := ltN h2
    clear h2
    refine ⟨{ k : Nat // k ≤ l.list.length }, 0, fun k => ([(16, .dat i64 (.I k.1)), (15, .dat .bool (.B (allToN (fun k => leB (i : Int) (k : Int) || (l.list.getD k .Z).int != (l.list.getD i .Z).int) k.1))), (14, .dat .bool (.B (anyTo (fun k => hasI (numsN lessR l.list) (k : Int) && belowB (l.list.getD k .Z).int (l.list.getD i .Z).int) k.1))), (13, .dat .bool (.B (anyTo (fun k => hasI (numsN lessI l.list) (k : Int) && belowB (l.list.getD i .Z).int (l.list.getD k .Z).int) k.1))),
      (12, .dat i64 (.I i)), (11, .dat i64 (.I ((ddp (ints (l.list.take i))).length : Nat))), (9, .dat i64 (.I (hgtI l.list))), (7, .dat .bool (.B (chainB l.list))), (5, .dat (.slice i64) (.L (numsN lessR l.list))), (3, .dat (.slice i64) (.L (numsN lessI l.list))), (0, .dat (.slice u64) l)], []), fun k => l.list.length - k.1,
      ⟨0, by omega⟩, ⟨[], rfl, ⟨rfl, rfl, rfl, rfl, rfl, rfl, rfl, rfl, rfl, rfl, rfl, trivial⟩, trivial⟩, ?_⟩
    intro y
    obtain ⟨k, hk⟩ := y
    refine ⟨fun h3 => ?_, fun h3 => ?_⟩
    · have hkl : k < l.list.length := ltN h3
      clear h3
      have gi : (0 : Int) ≤ (i : Int) := Int.natCast_nonneg i
      have gk : (0 : Int) ≤ (k : Int) := Int.natCast_nonneg k
      have gI : (i : Int) < (l.list.length : Int) := Int.ofNat_lt.2 hlt
      have gK : (k : Int) < (l.list.length : Int) := Int.ofNat_lt.2 hkl
      refine ⟨fun _ => ⟨gi, gI⟩, fun _ => ⟨gk, gK⟩, by kernel_rfl, fun _ => ⟨gk, gK⟩, fun _ => ⟨gi, gI⟩, by kernel_rfl, fun _ => ⟨gk, gK⟩, fun _ => ⟨gi, gI⟩, by kernel_rfl, ⟨k + 1, hkl⟩, ⟨[], rfl, ⟨slot (i64_1 (n := k) (by omega)), slotB ?_, slotB ?_, slotB ?_, rfl, rfl, rfl, rfl, rfl, rfl, rfl, trivial⟩, trivial⟩, stepLt hkl⟩
      · exact (allToN_succ (fun k => leB (i : Int) (k : Int) || (l.list.getD k .Z).int != (l.list.getD i .Z).int) k).symm
      · exact (anyTo_succ (fun k => hasI (numsN lessR l.list) (k : Int) && belowB (l.list.getD k .Z).int (l.list.getD i .Z).int) k).symm
      · exact (anyTo_succ (fun k => hasI (numsN lessI l.list) (k : Int) && belowB (l.list.getD i .Z).int (l.list.getD k .Z).int) k).symm
    · have e := geN hk h3
      subst e
      clear h3
      have hup : anyTo (fun k => hasI (numsN lessI l.list) (k : Int) && belowB (l.list.getD i .Z).int (l.list.getD k .Z).int) l.list.length = true := by
        obtain ⟨k, hk, h3, h4⟩ := up_max hU 65 i hlt (by have := pcI_le (l.list.getD i .Z).int; omega)
        exact any_yes hk (by rw [has_nums f0 hk, h3, h4]; rfl)
      have hdn : anyTo (fun k => hasI (numsN lessR l.list) (k : Int) && belowB (l.list.getD k .Z).int (l.list.getD i .Z).int) l.list.length = true := by
        obtain ⟨k, hk, h3, h4⟩ := down_min hU 65 i hlt (by have := pcI_le (l.list.getD i .Z).int; omega)
        exact any_yes hk (by rw [has_nums f0 hk, h3, h4]; rfl)
      have hlen : (ddp (ints (l.list.take i))).length ≤ i := by
        have h := nodup_le (ddp_nodup (ints (l.list.take i))) fun x hx => ddp_mem.1 hx
        rw [ints_len, List.length_take] at h
        omega
      have hnx : (ddp (ints (l.list.take (i + 1)))).length = if (!(ddp (ints (l.list.take i))).contains (l.list.getD i .Z).int) = true then (ddp (ints (l.list.take i))).length + 1 else (ddp (ints (l.list.take i))).length := by
        rw [ddp_take hlt, addI_count]
      rw [← first_is hlt] at hnx
      refine ⟨fun h4 => ?_, fun _ => ⟨fun h5 => ?_, fun h5 => ?_⟩⟩
      · replace h4 : (!anyTo (fun k => hasI (numsN lessI l.list) (k : Int) && belowB (l.list.getD i .Z).int (l.list.getD k .Z).int) l.list.length || !anyTo (fun k => hasI (numsN lessR l.list) (k : Int) && belowB (l.list.getD k .Z).int (l.list.getD i .Z).int) l.list.length) = true := h4
        rw [hup, hdn] at h4; cases h4
      · replace h5 : allToN (fun k => leB (i : Int) (k : Int) || (l.list.getD k .Z).int != (l.list.getD i .Z).int) l.list.length = true := h5
        rw [if_pos h5] at hnx
        exact ⟨⟨i + 1, hlt⟩, ⟨[], rfl, ⟨slot (i64_1 (n := i) (by omega)), slot (by rw [hnx]; exact i64_1 (by omega)), rfl, rfl, rfl, rfl, rfl, trivial⟩, trivial⟩, stepLt hlt⟩
      · replace h5 : allToN (fun k => leB (i : Int) (k : Int) || (l.list.getD k .Z).int != (l.list.getD i .Z).int) l.list.length = false := h5
        rw [if_neg (by rw [h5]; decide)] at hnx
        exact ⟨⟨i + 1, hlt⟩, ⟨[], rfl, ⟨slot (i64_1 (n := i) (by omega)), slot (by rw [hnx]), rfl, rfl, rfl, rfl, rfl, trivial⟩, trivial⟩, stepLt hlt⟩
  · have e := geN hi h2
    subst e
    refine Bears.bool ?_
    show (chainB l.list == (hgtI l.list == ((ddp (ints (l.list.take l.list.length))).length : Nat)) && true) = true
    have e1 : (hgtI l.list == (((ddp (ints l.list)).length : Nat) : Int)) = (top (ints l.list) == (ddp (ints l.list)).length) := by
      rw [hgtI, if_pos f0, Bool.eq_iff_iff, beq_iff_eq, beq_iff_eq]; omega
    rw [List.take_length, e1, chain_top f0 hU]; simp
end Go.Proofs.Ytohgdncglegjmaa
