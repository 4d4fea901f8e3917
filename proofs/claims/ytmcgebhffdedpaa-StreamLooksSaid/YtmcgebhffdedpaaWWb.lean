/- Streams: what is seen of one. -/
import Derived.Test.YtmcgebhffdedpaaWWa
namespace Go.Proofs.Ytmcgebhffdedpaa
open Go Go.Vm
set_option linter.unusedSimpArgs false
set_option linter.unusedVariables false
set_option maxRecDepth 10000
def sameB (a b : D) : Bool := a.list.length == b.list.length && (List.range a.list.length).all fun j => eqD storedS (a.list.getD j .Z) (b.list.getD j .Z)
def sSame : Sum := ⟨[.slice storedS, .slice storedS], fun _ => none, fun
  | [a, b] => .dat .bool (.B (sameB a b))
  | _ => .und⟩
theorem eqStored (d : D) : eqD storedS d d = true := by simp [eqD, eqDs]
theorem sameB_rfl (a : D) : sameB a a = true := by
  simp [sameB, eqStored]
theorem same_fun : FunOK c0W 60 Try.f10 sSame := fun a ha b hb _ => by
  simp only [InR] at ha hb
  refine ⟨fun h1 => Bears.bool ?_, fun h1 => ?_⟩
  all_goals replace h1 : ((a.list.length : Int) != (b.list.length : Int)) = _ := h1
  all_goals simp only [bne_iff_ne, ne_eq, bne_eq_false_iff_eq, Int.natCast_inj] at h1
  · show false = sameB a b
    have : (a.list.length == b.list.length) = false := by simp [h1]
    simp [sameB, this]
  refine ⟨{ i : Nat // i ≤ a.list.length ∧ ∀ k, k < i → eqD storedS (a.list.getD k .Z) (b.list.getD k .Z) = true }, 0, fun i => ([(0, .dat (.slice storedS) a), (1, .dat (.slice storedS) b), (5, .dat i64 (.I i.1))], []), fun i => a.list.length - i.1,
    ⟨0, by omega, fun k h => by omega⟩, ⟨[], rfl, ⟨rfl, rfl, rfl, trivial⟩, trivial⟩, ?_⟩
  intro x
  obtain ⟨i, hi, he⟩ := x
  refine ⟨fun h2 => ⟨?_, ?_, by kernel_rfl, fun h3 => Bears.bool ?_, fun h3 => ?_⟩, fun h2 => Bears.bool ?_⟩
  all_goals replace h2 : ltB (i : Int) (a.list.length : Int) = _ := h2
  all_goals simp only [ltB_true, ltB_false] at h2
  · show 0 ≤ (i : Int) ∧ (i : Int) < (a.list.length : Int)
    omega
  · show 0 ≤ (i : Int) ∧ (i : Int) < (b.list.length : Int)
    omega
  · replace h3 : (!eqD storedS (a.list.getD i .Z) (b.list.getD i .Z)) = true := h3
    simp only [Bool.not_eq_true'] at h3
    show false = sameB a b
    symm
    rw [Bool.eq_false_iff]
    intro h
    simp only [sameB, Bool.and_eq_true, List.all_eq_true, List.mem_range] at h
    have := h.2 i (by omega)
    rw [h3] at this; cases this
  · replace h3 : (!eqD storedS (a.list.getD i .Z) (b.list.getD i .Z)) = false := h3
    simp only [Bool.not_eq_false'] at h3
    refine ⟨⟨i + 1, by omega, fun k hk => ?_⟩, ⟨[], rfl, ⟨rfl, rfl, congrArg some (succ_i64 (n := i) (by omega)), trivial⟩, trivial⟩, ?_⟩
    · rcases Nat.lt_or_eq_of_le (Nat.le_of_lt_succ hk) with h | rfl
      · exact he k h
      · exact h3
    · show a.list.length - (i + 1) < a.list.length - i
      omega
  · show true = sameB a b
    symm
    simp only [sameB, Bool.and_eq_true, List.all_eq_true, List.mem_range, beq_iff_eq]
    exact ⟨h1, fun k hk => he k (by omega)⟩
def cloneS : Sum := ⟨[.slice storedS], fun
  | [a] => some (a.list.length ≤ 1073741824)
  | _ => none, fun | [a] => .dat (.slice storedS) a | _ => .und⟩
theorem own_fun : FunOK c0W 60 Try.f5 cloneS := fun a ha h => by
  replace h : a.list.length ≤ 1073741824 := h
  refine ⟨?_, Bears.same ?_⟩
  · show 0 + a.list.length ≤ 1073741824
    omega
  · have e : (D.L ([] ++ a.list)).list = a.list := rfl
    simp only [Same]
    exact ⟨rfl, fun _ _ => Sames.rfl⟩
def belowB (a b : Int) : Bool := bitsOp .andNot .u64 a b == 0
def sBelow : Sum := ⟨[u64, u64], fun _ => none, fun
  | [a, b] => .dat .bool (.B (belowB a.int b.int))
  | _ => .und⟩
theorem below_fun : FunOK c0W 20 Try.f32 sBelow := fun _ _ _ _ _ => Bears.rfl
def sOk : Sum := ⟨[.slice storedS], fun _ => none, fun
  | [l] => .dat i64 (.I (chkE l.list))
  | _ => .und⟩
def cOk : Ctx := ⟨tabW, refsW, [(7, sChk)], [], keep, mpsW⟩
theorem ok_fun : FunOK cOk 60 Try.f33 sOk := fun l hl _ => Bears.int rfl
/-- The events of a right stream that a test lets through. -/
def filL (p : D → Bool) (l : List D) : List D := if chkE l = 0 then l.filter p else []
def sFil (p : Int → D → Bool) : Sum := ⟨[.slice storedS, u64], fun _ => none, fun
  | [l, t] => .tup [.dat (.slice storedS) (.L (filL (p t.int) l.list)), .dat i64 (.I (chkE l.list))]
  | _ => .und⟩
def pVis (t : Int) (x : D) : Bool := belowB (lbS x) t
def pCls (t : Int) (x : D) : Bool := lbS x == t
def pUp (t : Int) (x : D) : Bool := leB (tiS x) t
def pFr (t : Int) (x : D) : Bool := leB t (tiS x)
noncomputable def fnsF : List (Nat × Func) := [(30, Try.f30), (41, Try.f41), (31, Try.f31), (34, Try.f34), (35, Try.f35), (36, Try.f36)]
noncomputable def cFi : Ctx := ⟨tabW, refsW, [(6, sChk), (32, sBelow)], fnsF, keep, mpsW⟩
theorem filL_0 {p : D → Bool} {l : List D} (h : chkE l = 0) : filL p l = l.filter p := if_pos h
theorem filL_1 {p : D → Bool} {l : List D} (h : chkE l ≠ 0) : filL p l = [] := if_neg h
theorem fil_take {p : D → Bool} {l : List D} {i : Nat} (h : i < l.length) : (l.take (i + 1)).filter p = (l.take i).filter p ++ if p (l.getD i .Z) = true then [l.getD i .Z] else [] := by
  have e : l.take (i + 1) = l.take i ++ [l.getD i .Z] := by
    rw [List.take_add_one, List.getD_eq_getElem?_getD, List.getElem?_eq_getElem h]; rfl
  rw [e, List.filter_append, List.filter_cons, List.filter_nil]
theorem fil_len {p : D → Bool} {l : List D} {i : Nat} : ((l.take i).filter p).length ≤ i := by
  have h := List.length_filter_le p (l.take i)
  rw [List.length_take] at h
  omega
theorem chk_len {l : List D} (h : chkE l = 0) : l.length ≤ 1000 := by
  rcases Nat.lt_or_ge 1000 l.length with h1 | h1
  · rw [(chk_long h1).1] at h; cases h
  · exact h1
theorem bneT {a b : Int} (h : (a != b) = true) : a ≠ b := by simpa using h
theorem bneF {a b : Int} (h : (a != b) = false) : a = b := by simpa using h
theorem vis_fun : FunOK cFi 100 Try.f8 (sFil pVis) := fun l hl t ht _ => by
  simp only [InR] at hl
  refine ⟨fun h1 => ⟨Bears.same (eqSame (by rw [filL_1 (bneT h1)])), Bears.int rfl, trivial⟩, fun h1 => ?_⟩
  have h0 : chkE l.list = 0 := bneF h1
  have hlen := chk_len h0
  refine ⟨{ k : Nat // k ≤ l.list.length }, 6, fun k => ([(10, .dat i64 (.I k.1)), (9, .dat i64 (.I l.list.length)), (8, .dat (.slice storedS) l), (5, .own 5 storedS), (1, .fn 31 [.ptr 0 u64 [] u64])], [(5, .grow storedS ((l.list.take k.1).filter (pVis t.int))), (0, .box u64 (.dat u64 (.I t.int)))]), fun k => l.list.length - k.1,
    ⟨0, Nat.zero_le _⟩, ⟨[(5, 4)], rfl, ⟨rfl, rfl, rfl, rfl, rfl, trivial⟩, ⟨rfl, rfl, trivial⟩⟩, ?_⟩
  intro k
  obtain ⟨k, hk⟩ := k
  refine ⟨fun h2 => ⟨ix (ltN h2), fun h3 => ⟨?_, ?_⟩, fun h3 => ?_⟩, fun h2 => ⟨Bears.same (eqSame ?_), Bears.int h0.symm, trivial⟩⟩
  · have hl2 := fil_len (p := pVis t.int) (l := l.list) (i := k)
    show ((l.list.take k).filter (pVis t.int)).length + 1 ≤ 1073741824
    omega
  · have hlt : k < l.list.length := ltN h2
    have h3 : pVis t.int (l.list.getD k .Z) = true := h3
    exact ⟨⟨k + 1, hlt⟩, ⟨[(5, 9)], rfl, ⟨slot (i64_1 (n := k) (by omega)), rfl, rfl, rfl, rfl, trivial⟩, ⟨gro (by rw [fil_take hlt, if_pos h3]; rfl), rfl, trivial⟩⟩, stepLt hlt⟩
  · have hlt : k < l.list.length := ltN h2
    have h3 : pVis t.int (l.list.getD k .Z) = false := h3
    exact ⟨⟨k + 1, hlt⟩, ⟨[], rfl, ⟨slot (i64_1 (n := k) (by omega)), rfl, rfl, rfl, rfl, trivial⟩, ⟨gro (by rw [fil_take hlt, if_neg (by rw [h3]; decide), List.append_nil]), rfl, trivial⟩⟩, stepLt hlt⟩
  · have e := geN hk h2
    subst e
    show D.L ((l.list.take l.list.length).filter (pVis t.int)) = D.L (filL (pVis t.int) l.list)
    rw [filL_0 h0, List.take_length]
theorem cls_fun : FunOK cFi 100 Try.f11 (sFil pCls) := fun l hl t ht _ => by
  simp only [InR] at hl
  refine ⟨fun h1 => ⟨Bears.same (eqSame (by rw [filL_1 (bneT h1)])), Bears.int rfl, trivial⟩, fun h1 => ?_⟩
  have h0 : chkE l.list = 0 := bneF h1
  have hlen := chk_len h0
  refine ⟨{ k : Nat // k ≤ l.list.length }, 6, fun k => ([(10, .dat i64 (.I k.1)), (9, .dat i64 (.I l.list.length)), (8, .dat (.slice storedS) l), (5, .own 5 storedS), (1, .fn 34 [.ptr 0 u64 [] u64])], [(5, .grow storedS ((l.list.take k.1).filter (pCls t.int))), (0, .box u64 (.dat u64 (.I t.int)))]), fun k => l.list.length - k.1,
    ⟨0, Nat.zero_le _⟩, ⟨[(5, 4)], rfl, ⟨rfl, rfl, rfl, rfl, rfl, trivial⟩, ⟨rfl, rfl, trivial⟩⟩, ?_⟩
  intro k
  obtain ⟨k, hk⟩ := k
  refine ⟨fun h2 => ⟨ix (ltN h2), fun h3 => ⟨?_, ?_⟩, fun h3 => ?_⟩, fun h2 => ⟨Bears.same (eqSame ?_), Bears.int h0.symm, trivial⟩⟩
  · have hl2 := fil_len (p := pCls t.int) (l := l.list) (i := k)
    show ((l.list.take k).filter (pCls t.int)).length + 1 ≤ 1073741824
    omega
  · have hlt : k < l.list.length := ltN h2
    have h3 : pCls t.int (l.list.getD k .Z) = true := h3
    exact ⟨⟨k + 1, hlt⟩, ⟨[(5, 9)], rfl, ⟨slot (i64_1 (n := k) (by omega)), rfl, rfl, rfl, rfl, trivial⟩, ⟨gro (by rw [fil_take hlt, if_pos h3]; rfl), rfl, trivial⟩⟩, stepLt hlt⟩
  · have hlt : k < l.list.length := ltN h2
    have h3 : pCls t.int (l.list.getD k .Z) = false := h3
    exact ⟨⟨k + 1, hlt⟩, ⟨[], rfl, ⟨slot (i64_1 (n := k) (by omega)), rfl, rfl, rfl, rfl, trivial⟩, ⟨gro (by rw [fil_take hlt, if_neg (by rw [h3]; decide), List.append_nil]), rfl, trivial⟩⟩, stepLt hlt⟩
  · have e := geN hk h2
    subst e
    show D.L ((l.list.take l.list.length).filter (pCls t.int)) = D.L (filL (pCls t.int) l.list)
    rw [filL_0 h0, List.take_length]
theorem upt_fun : FunOK cFi 100 Try.f13 (sFil pUp) := fun l hl t ht _ => by
  simp only [InR] at hl
  refine ⟨fun h1 => ⟨Bears.same (eqSame (by rw [filL_1 (bneT h1)])), Bears.int rfl, trivial⟩, fun h1 => ?_⟩
  have h0 : chkE l.list = 0 := bneF h1
  have hlen := chk_len h0
  refine ⟨{ k : Nat // k ≤ l.list.length }, 6, fun k => ([(10, .dat i64 (.I k.1)), (9, .dat i64 (.I l.list.length)), (8, .dat (.slice storedS) l), (5, .own 5 storedS), (1, .fn 35 [.ptr 0 u64 [] u64])], [(5, .grow storedS ((l.list.take k.1).filter (pUp t.int))), (0, .box u64 (.dat u64 (.I t.int)))]), fun k => l.list.length - k.1,
    ⟨0, Nat.zero_le _⟩, ⟨[(5, 4)], rfl, ⟨rfl, rfl, rfl, rfl, rfl, trivial⟩, ⟨rfl, rfl, trivial⟩⟩, ?_⟩
  intro k
  obtain ⟨k, hk⟩ := k
  refine ⟨fun h2 => ⟨ix (ltN h2), fun h3 => ⟨?_, ?_⟩, fun h3 => ?_⟩, fun h2 => ⟨Bears.same (eqSame ?_), Bears.int h0.symm, trivial⟩⟩
  · have hl2 := fil_len (p := pUp t.int) (l := l.list) (i := k)
    show ((l.list.take k).filter (pUp t.int)).length + 1 ≤ 1073741824
    omega
  · have hlt : k < l.list.length := ltN h2
    have h3 : pUp t.int (l.list.getD k .Z) = true := h3
    exact ⟨⟨k + 1, hlt⟩, ⟨[(5, 9)], rfl, ⟨slot (i64_1 (n := k) (by omega)), rfl, rfl, rfl, rfl, trivial⟩, ⟨gro (by rw [fil_take hlt, if_pos h3]; rfl), rfl, trivial⟩⟩, stepLt hlt⟩
  · have hlt : k < l.list.length := ltN h2
    have h3 : pUp t.int (l.list.getD k .Z) = false := h3
    exact ⟨⟨k + 1, hlt⟩, ⟨[], rfl, ⟨slot (i64_1 (n := k) (by omega)), rfl, rfl, rfl, rfl, trivial⟩, ⟨gro (by rw [fil_take hlt, if_neg (by rw [h3]; decide), List.append_nil]), rfl, trivial⟩⟩, stepLt hlt⟩
  · have e := geN hk h2
    subst e
    show D.L ((l.list.take l.list.length).filter (pUp t.int)) = D.L (filL (pUp t.int) l.list)
    rw [filL_0 h0, List.take_length]
theorem fro_fun : FunOK cFi 100 Try.f15 (sFil pFr) := fun l hl t ht _ => by
  simp only [InR] at hl
  refine ⟨fun h1 => ⟨Bears.same (eqSame (by rw [filL_1 (bneT h1)])), Bears.int rfl, trivial⟩, fun h1 => ?_⟩
  have h0 : chkE l.list = 0 := bneF h1
  have hlen := chk_len h0
  refine ⟨{ k : Nat // k ≤ l.list.length }, 6, fun k => ([(10, .dat i64 (.I k.1)), (9, .dat i64 (.I l.list.length)), (8, .dat (.slice storedS) l), (5, .own 5 storedS), (1, .fn 36 [.ptr 0 u64 [] u64])], [(5, .grow storedS ((l.list.take k.1).filter (pFr t.int))), (0, .box u64 (.dat u64 (.I t.int)))]), fun k => l.list.length - k.1,
    ⟨0, Nat.zero_le _⟩, ⟨[(5, 4)], rfl, ⟨rfl, rfl, rfl, rfl, rfl, trivial⟩, ⟨rfl, rfl, trivial⟩⟩, ?_⟩
  intro k
  obtain ⟨k, hk⟩ := k
  refine ⟨fun h2 => ⟨ix (ltN h2), fun h3 => ⟨?_, ?_⟩, fun h3 => ?_⟩, fun h2 => ⟨Bears.same (eqSame ?_), Bears.int h0.symm, trivial⟩⟩
  · have hl2 := fil_len (p := pFr t.int) (l := l.list) (i := k)
    show ((l.list.take k).filter (pFr t.int)).length + 1 ≤ 1073741824
    omega
  · have hlt : k < l.list.length := ltN h2
    have h3 : pFr t.int (l.list.getD k .Z) = true := h3
    exact ⟨⟨k + 1, hlt⟩, ⟨[(5, 9)], rfl, ⟨slot (i64_1 (n := k) (by omega)), rfl, rfl, rfl, rfl, trivial⟩, ⟨gro (by rw [fil_take hlt, if_pos h3]; rfl), rfl, trivial⟩⟩, stepLt hlt⟩
  · have hlt : k < l.list.length := ltN h2
    have h3 : pFr t.int (l.list.getD k .Z) = false := h3
    exact ⟨⟨k + 1, hlt⟩, ⟨[], rfl, ⟨slot (i64_1 (n := k) (by omega)), rfl, rfl, rfl, rfl, trivial⟩, ⟨gro (by rw [fil_take hlt, if_neg (by rw [h3]; decide), List.append_nil]), rfl, trivial⟩⟩, stepLt hlt⟩
  · have e := geN hk h2
    subst e
    show D.L ((l.list.take l.list.length).filter (pFr t.int)) = D.L (filL (pFr t.int) l.list)
    rw [filL_0 h0, List.take_length]
def cFiR : Ctx := ⟨tabW, refsW, [(33, sOk)], [], keep, mpsW⟩
theorem visR_fun : FunOK cFiR 100 Try.f9 (sFil pVis) := fun l hl t ht _ => by
  simp only [InR] at hl
  refine ⟨{ k : Nat // k ≤ l.list.length ∧ (chkE l.list ≠ 0 → k = 0) }, 3, fun k => ([(8, .dat i64 (.I k.1)), (7, .own 2 storedS), (6, .dat i64 (.I (chkE l.list))), (0, .dat (.slice storedS) l), (1, .dat u64 (.I t.int))], [(2, .grow storedS ((l.list.take k.1).filter (pVis t.int)))]), fun k => l.list.length - k.1,
    ⟨0, Nat.zero_le _, fun _ => rfl⟩, ⟨[(2, 1)], rfl, ⟨rfl, rfl, rfl, rfl, rfl, trivial⟩, ⟨rfl, trivial⟩⟩, ?_⟩
  intro k
  obtain ⟨k, hk, hk0⟩ := k
  have cnd : ∀ b : Bool, (ltB (k : Int) (l.list.length : Int) && chkE l.list == 0) = b → b = true → k < l.list.length ∧ chkE l.list = 0 := fun b h1 h2 => by
    subst h2
    simp only [Bool.and_eq_true, ltB_true, beq_iff_eq] at h1
    omega
  refine ⟨fun h1 => ⟨ix (cnd true h1 rfl).1, fun h2 => ⟨ix (cnd true h1 rfl).1, ?_, ?_⟩, fun h2 => ?_⟩, fun h1 => ⟨Bears.same (eqSame ?_), Bears.int rfl, trivial⟩⟩
  · obtain ⟨hlt, h0⟩ := cnd true h1 rfl
    have hlen := chk_len h0
    have hl2 := fil_len (p := pVis t.int) (l := l.list) (i := k)
    show ((l.list.take k).filter (pVis t.int)).length + 1 ≤ 1073741824
    omega
  · obtain ⟨hlt, h0⟩ := cnd true h1 rfl
    have hlen := chk_len h0
    have h2 : pVis t.int (l.list.getD k .Z) = true := h2
    exact ⟨⟨k + 1, hlt, fun h => absurd h0 h⟩, ⟨[(2, 4)], rfl, ⟨slot (i64_1 (n := k) (by omega)), rfl, rfl, rfl, rfl, trivial⟩, ⟨gro (by rw [fil_take hlt, if_pos h2]; rfl), trivial⟩⟩, stepLt hlt⟩
  · obtain ⟨hlt, h0⟩ := cnd true h1 rfl
    have hlen := chk_len h0
    have h2 : pVis t.int (l.list.getD k .Z) = false := h2
    exact ⟨⟨k + 1, hlt, fun h => absurd h0 h⟩, ⟨[], rfl, ⟨slot (i64_1 (n := k) (by omega)), rfl, rfl, rfl, rfl, trivial⟩, ⟨gro (by rw [fil_take hlt, if_neg (by rw [h2]; decide), List.append_nil]), trivial⟩⟩, stepLt hlt⟩
  · have h1 : (ltB (k : Int) (l.list.length : Int) && chkE l.list == 0) = false := h1
    show D.L ((l.list.take k).filter (pVis t.int)) = D.L (filL (pVis t.int) l.list)
    by_cases h0 : chkE l.list = 0
    · have e : k = l.list.length := by
        rw [h0, beq_self_eq_true, Bool.and_true] at h1
        exact geN hk h1
      rw [filL_0 h0, e, List.take_length]
    · rw [filL_1 h0, hk0 h0]; rfl
theorem clsR_fun : FunOK cFiR 100 Try.f12 (sFil pCls) := fun l hl t ht _ => by
  simp only [InR] at hl
  refine ⟨{ k : Nat // k ≤ l.list.length ∧ (chkE l.list ≠ 0 → k = 0) }, 3, fun k => ([(8, .dat i64 (.I k.1)), (7, .own 2 storedS), (6, .dat i64 (.I (chkE l.list))), (0, .dat (.slice storedS) l), (1, .dat u64 (.I t.int))], [(2, .grow storedS ((l.list.take k.1).filter (pCls t.int)))]), fun k => l.list.length - k.1,
    ⟨0, Nat.zero_le _, fun _ => rfl⟩, ⟨[(2, 1)], rfl, ⟨rfl, rfl, rfl, rfl, rfl, trivial⟩, ⟨rfl, trivial⟩⟩, ?_⟩
  intro k
  obtain ⟨k, hk, hk0⟩ := k
  have cnd : ∀ b : Bool, (ltB (k : Int) (l.list.length : Int) && chkE l.list == 0) = b → b = true → k < l.list.length ∧ chkE l.list = 0 := fun b h1 h2 => by
    subst h2
    simp only [Bool.and_eq_true, ltB_true, beq_iff_eq] at h1
    omega
  refine ⟨fun h1 => ⟨ix (cnd true h1 rfl).1, fun h2 => ⟨ix (cnd true h1 rfl).1, ?_, ?_⟩, fun h2 => ?_⟩, fun h1 => ⟨Bears.same (eqSame ?_), Bears.int rfl, trivial⟩⟩
  · obtain ⟨hlt, h0⟩ := cnd true h1 rfl
    have hlen := chk_len h0
    have hl2 := fil_len (p := pCls t.int) (l := l.list) (i := k)
    show ((l.list.take k).filter (pCls t.int)).length + 1 ≤ 1073741824
    omega
  · obtain ⟨hlt, h0⟩ := cnd true h1 rfl
    have hlen := chk_len h0
    have h2 : pCls t.int (l.list.getD k .Z) = true := h2
    exact ⟨⟨k + 1, hlt, fun h => absurd h0 h⟩, ⟨[(2, 4)], rfl, ⟨slot (i64_1 (n := k) (by omega)), rfl, rfl, rfl, rfl, trivial⟩, ⟨gro (by rw [fil_take hlt, if_pos h2]; rfl), trivial⟩⟩, stepLt hlt⟩
  · obtain ⟨hlt, h0⟩ := cnd true h1 rfl
    have hlen := chk_len h0
    have h2 : pCls t.int (l.list.getD k .Z) = false := h2
    exact ⟨⟨k + 1, hlt, fun h => absurd h0 h⟩, ⟨[], rfl, ⟨slot (i64_1 (n := k) (by omega)), rfl, rfl, rfl, rfl, trivial⟩, ⟨gro (by rw [fil_take hlt, if_neg (by rw [h2]; decide), List.append_nil]), trivial⟩⟩, stepLt hlt⟩
  · have h1 : (ltB (k : Int) (l.list.length : Int) && chkE l.list == 0) = false := h1
    show D.L ((l.list.take k).filter (pCls t.int)) = D.L (filL (pCls t.int) l.list)
    by_cases h0 : chkE l.list = 0
    · have e : k = l.list.length := by
        rw [h0, beq_self_eq_true, Bool.and_true] at h1
        exact geN hk h1
      rw [filL_0 h0, e, List.take_length]
    · rw [filL_1 h0, hk0 h0]; rfl
theorem uptR_fun : FunOK cFiR 100 Try.f14 (sFil pUp) := fun l hl t ht _ => by
  simp only [InR] at hl
  refine ⟨{ k : Nat // k ≤ l.list.length ∧ (chkE l.list ≠ 0 → k = 0) }, 3, fun k => ([(8, .dat i64 (.I k.1)), (7, .own 2 storedS), (6, .dat i64 (.I (chkE l.list))), (0, .dat (.slice storedS) l), (1, .dat u64 (.I t.int))], [(2, .grow storedS ((l.list.take k.1).filter (pUp t.int)))]), fun k => l.list.length - k.1,
    ⟨0, Nat.zero_le _, fun _ => rfl⟩, ⟨[(2, 1)], rfl, ⟨rfl, rfl, rfl, rfl, rfl, trivial⟩, ⟨rfl, trivial⟩⟩, ?_⟩
  intro k
  obtain ⟨k, hk, hk0⟩ := k
  have cnd : ∀ b : Bool, (ltB (k : Int) (l.list.length : Int) && chkE l.list == 0) = b → b = true → k < l.list.length ∧ chkE l.list = 0 := fun b h1 h2 => by
    subst h2
    simp only [Bool.and_eq_true, ltB_true, beq_iff_eq] at h1
    omega
  refine ⟨fun h1 => ⟨ix (cnd true h1 rfl).1, fun h2 => ⟨ix (cnd true h1 rfl).1, ?_, ?_⟩, fun h2 => ?_⟩, fun h1 => ⟨Bears.same (eqSame ?_), Bears.int rfl, trivial⟩⟩
  · obtain ⟨hlt, h0⟩ := cnd true h1 rfl
    have hlen := chk_len h0
    have hl2 := fil_len (p := pUp t.int) (l := l.list) (i := k)
    show ((l.list.take k).filter (pUp t.int)).length + 1 ≤ 1073741824
    omega
  · obtain ⟨hlt, h0⟩ := cnd true h1 rfl
    have hlen := chk_len h0
    have h2 : pUp t.int (l.list.getD k .Z) = true := h2
    exact ⟨⟨k + 1, hlt, fun h => absurd h0 h⟩, ⟨[(2, 4)], rfl, ⟨slot (i64_1 (n := k) (by omega)), rfl, rfl, rfl, rfl, trivial⟩, ⟨gro (by rw [fil_take hlt, if_pos h2]; rfl), trivial⟩⟩, stepLt hlt⟩
  · obtain ⟨hlt, h0⟩ := cnd true h1 rfl
    have hlen := chk_len h0
    have h2 : pUp t.int (l.list.getD k .Z) = false := h2
    exact ⟨⟨k + 1, hlt, fun h => absurd h0 h⟩, ⟨[], rfl, ⟨slot (i64_1 (n := k) (by omega)), rfl, rfl, rfl, rfl, trivial⟩, ⟨gro (by rw [fil_take hlt, if_neg (by rw [h2]; decide), List.append_nil]), trivial⟩⟩, stepLt hlt⟩
  · have h1 : (ltB (k : Int) (l.list.length : Int) && chkE l.list == 0) = false := h1
    show D.L ((l.list.take k).filter (pUp t.int)) = D.L (filL (pUp t.int) l.list)
    by_cases h0 : chkE l.list = 0
    · have e : k = l.list.length := by
        rw [h0, beq_self_eq_true, Bool.and_true] at h1
        exact geN hk h1
      rw [filL_0 h0, e, List.take_length]
    · rw [filL_1 h0, hk0 h0]; rfl
theorem froR_fun : FunOK cFiR 100 Try.f16 (sFil pFr) := fun l hl t ht _ => by
  simp only [InR] at hl
  refine ⟨{ k : Nat // k ≤ l.list.length ∧ (chkE l.list ≠ 0 → k = 0) }, 3, fun k => ([(8, .dat i64 (.I k.1)), (7, .own 2 storedS), (6, .dat i64 (.I (chkE l.list))), (0, .dat (.slice storedS) l), (1, .dat u64 (.I t.int))], [(2, .grow storedS ((l.list.take k.1).filter (pFr t.int)))]), fun k => l.list.length - k.1,
    ⟨0, Nat.zero_le _, fun _ => rfl⟩, ⟨[(2, 1)], rfl, ⟨rfl, rfl, rfl, rfl, rfl, trivial⟩, ⟨rfl, trivial⟩⟩, ?_⟩
  intro k
  obtain ⟨k, hk, hk0⟩ := k
  have cnd : ∀ b : Bool, (ltB (k : Int) (l.list.length : Int) && chkE l.list == 0) = b → b = true → k < l.list.length ∧ chkE l.list = 0 := fun b h1 h2 => by
    subst h2
    simp only [Bool.and_eq_true, ltB_true, beq_iff_eq] at h1
    omega
  refine ⟨fun h1 => ⟨ix (cnd true h1 rfl).1, fun h2 => ⟨ix (cnd true h1 rfl).1, ?_, ?_⟩, fun h2 => ?_⟩, fun h1 => ⟨Bears.same (eqSame ?_), Bears.int rfl, trivial⟩⟩
  · obtain ⟨hlt, h0⟩ := cnd true h1 rfl
    have hlen := chk_len h0
    have hl2 := fil_len (p := pFr t.int) (l := l.list) (i := k)
    show ((l.list.take k).filter (pFr t.int)).length + 1 ≤ 1073741824
    omega
  · obtain ⟨hlt, h0⟩ := cnd true h1 rfl
    have hlen := chk_len h0
    have h2 : pFr t.int (l.list.getD k .Z) = true := h2
    exact ⟨⟨k + 1, hlt, fun h => absurd h0 h⟩, ⟨[(2, 4)], rfl, ⟨slot (i64_1 (n := k) (by omega)), rfl, rfl, rfl, rfl, trivial⟩, ⟨gro (by rw [fil_take hlt, if_pos h2]; rfl), trivial⟩⟩, stepLt hlt⟩
  · obtain ⟨hlt, h0⟩ := cnd true h1 rfl
    have hlen := chk_len h0
    have h2 : pFr t.int (l.list.getD k .Z) = false := h2
    exact ⟨⟨k + 1, hlt, fun h => absurd h0 h⟩, ⟨[], rfl, ⟨slot (i64_1 (n := k) (by omega)), rfl, rfl, rfl, rfl, trivial⟩, ⟨gro (by rw [fil_take hlt, if_neg (by rw [h2]; decide), List.append_nil]), trivial⟩⟩, stepLt hlt⟩
  · have h1 : (ltB (k : Int) (l.list.length : Int) && chkE l.list == 0) = false := h1
    show D.L ((l.list.take k).filter (pFr t.int)) = D.L (filL (pFr t.int) l.list)
    by_cases h0 : chkE l.list = 0
    · have e : k = l.list.length := by
        rw [h0, beq_self_eq_true, Bool.and_true] at h1
        exact geN hk h1
      rw [filL_0 h0, e, List.take_length]
    · rw [filL_1 h0, hk0 h0]; rfl
end Go.Proofs.Ytmcgebhffdedpaa
