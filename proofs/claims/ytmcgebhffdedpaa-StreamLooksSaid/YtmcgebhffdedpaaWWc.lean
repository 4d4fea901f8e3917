/- Streams: the first events, where an Id is. -/
import Derived.Test.YtmcgebhffdedpaaWWb
namespace Go.Proofs.Ytmcgebhffdedpaa
open Go Go.Vm
set_option linter.unusedSimpArgs false
set_option linter.unusedVariables false
set_option maxRecDepth 10000
def preE (l : List D) (n : Int) : Int := if chkE l ≠ 0 then chkE l else if n < 0 ∨ (l.length : Int) < n then 2 else 0
def preL (l : List D) (n : Int) : List D := if preE l n = 0 then l.take n.toNat else []
theorem pre_1 {l : List D} {n : Int} (h : chkE l ≠ 0) : preE l n = chkE l ∧ preL l n = [] := by
  have e : preE l n = chkE l := if_pos h
  exact ⟨e, if_neg (by rw [e]; exact h)⟩
theorem pre_2 {l : List D} {n : Int} (h : chkE l = 0) (h2 : n < 0 ∨ (l.length : Int) < n) : preE l n = 2 ∧ preL l n = [] := by
  have e : preE l n = 2 := by rw [preE, if_neg (by simp [h]), if_pos h2]
  exact ⟨e, if_neg (by rw [e]; decide)⟩
theorem pre_0 {l : List D} {n : Int} (h : chkE l = 0) (h1 : 0 ≤ n) (h2 : n ≤ (l.length : Int)) : preE l n = 0 ∧ preL l n = l.take n.toNat := by
  have e : preE l n = 0 := by rw [preE, if_neg (by simp [h]), if_neg (by omega)]
  exact ⟨e, if_pos e⟩
def sPre : Sum := ⟨[.slice storedS, i64], fun _ => none, fun
  | [l, n] => .tup [.dat (.slice storedS) (.L (preL l.list n.int)), .dat i64 (.I (preE l.list n.int))]
  | _ => .und⟩
noncomputable def cPr : Ctx := ⟨tabW, refsW, [(6, sChk)], [(37, Try.f37)], keep, mpsW⟩
theorem take_len {l : List D} {a b : Nat} : ((l.drop b).take a).length ≤ l.length := by
  rw [List.length_take, List.length_drop]; omega
theorem pre_fun : FunOK cPr 100 Try.f17 sPre := fun l hl n hn _ => by
  refine ⟨fun h1 => ?_, fun h1 => ⟨fun h2 => ?_, fun h2 => ⟨?_, fun b h3 => ⟨fun h4 => ?_, fun h4 => ⟨?_, ?_⟩⟩⟩⟩⟩
  · obtain ⟨e1, e2⟩ := pre_1 (n := n.int) (bneT h1)
    exact ⟨Bears.same (eqSame (by rw [e2])), Bears.int e1.symm, trivial⟩
  all_goals have h0 : chkE l.list = 0 := bneF h1
  all_goals have hlen := chk_len h0
  · have h2 : (ltB n.int 0 || ltB (l.list.length : Int) n.int) = true := h2
    simp only [Bool.or_eq_true, ltB_true] at h2
    obtain ⟨e1, e2⟩ := pre_2 h0 h2
    exact ⟨Bears.same (eqSame (by rw [e2])), Bears.int e1.symm, trivial⟩
  all_goals have h2 : (ltB n.int 0 || ltB (l.list.length : Int) n.int) = false := h2
  all_goals simp only [Bool.or_eq_false_iff, ltB_false] at h2
  all_goals obtain ⟨e1, e2⟩ := pre_0 h0 h2.1 h2.2
  all_goals have e3 : n.int - 0 = n.int := by omega
  · show 0 ≤ (0 : Int) ∧ 0 ≤ n.int ∧ n.int ≤ (l.list.length : Int)
    omega
  · have h3 : (l.list.drop 0).take (n.int - 0).toNat = [] := h3 h4
    rw [e3, List.drop_zero] at h3
    exact ⟨Bears.same (eqSame (by rw [e2, h3])), Bears.int e1.symm, trivial⟩
  · have := take_len (l := l.list) (a := (n.int - 0).toNat) (b := 0)
    show 0 + ((l.list.drop 0).take (n.int - 0).toNat).length ≤ 1073741824
    omega
  · refine ⟨Bears.same (eqSame ?_), Bears.int e1.symm, trivial⟩
    show D.L ([] ++ (l.list.drop 0).take (n.int - 0).toNat) = D.L (preL l.list n.int)
    rw [e2, e3, List.nil_append, List.drop_zero]
theorem preR_fun : FunOK cFiR 100 Try.f18 sPre := fun l hl n hn _ => by
  refine ⟨fun h1 => ⟨fun h2 => ?_, fun h2 => (by cases h2)⟩, fun h1 => ⟨fun h2 => ?_, fun h2 => ⟨?_, ?_, ?_⟩⟩⟩
  · have h1 : (chkE l.list == 0 && (ltB n.int 0 || ltB (l.list.length : Int) n.int)) = true := h1
    simp only [Bool.and_eq_true, beq_iff_eq, Bool.or_eq_true, ltB_true] at h1
    obtain ⟨e1, e2⟩ := pre_2 h1.1 h1.2
    exact ⟨Bears.same (eqSame (by rw [e2])), Bears.int e1.symm, trivial⟩
  · obtain ⟨e1, e2⟩ := pre_1 (n := n.int) (bneT h2)
    exact ⟨Bears.same (eqSame (by rw [e2])), Bears.int e1.symm, trivial⟩
  all_goals have h0 : chkE l.list = 0 := bneF h2
  all_goals have hlen := chk_len h0
  all_goals have h1 : (chkE l.list == 0 && (ltB n.int 0 || ltB (l.list.length : Int) n.int)) = false := h1
  all_goals rw [h0, beq_self_eq_true, Bool.true_and, Bool.or_eq_false_iff, ltB_false, ltB_false] at h1
  all_goals obtain ⟨e1, e2⟩ := pre_0 h0 h1.1 h1.2
  all_goals have e3 : n.int - 0 = n.int := by omega
  · show 0 ≤ (0 : Int) ∧ 0 ≤ n.int ∧ n.int ≤ (l.list.length : Int)
    omega
  · have := take_len (l := l.list) (a := (n.int - 0).toNat) (b := 0)
    show 0 + ((l.list.drop 0).take (n.int - 0).toNat).length ≤ 1073741824
    omega
  · refine ⟨Bears.same (eqSame ?_), Bears.int e1.symm, trivial⟩
    show D.L ([] ++ (l.list.drop 0).take (n.int - 0).toNat) = D.L (preL l.list n.int)
    rw [e2, e3, List.nil_append, List.drop_zero]
/-! ### Where an Id is -/
theorem eqId (a b : D) : eqD idS a b = true ↔ (a.nth 0).int = (b.nth 0).int ∧ (a.nth 1).int = (b.nth 1).int := by
  simp [eqD, eqDs]
theorem eqId_false (a b : D) : eqD idS a b = false ↔ ¬ ((a.nth 0).int = (b.nth 0).int ∧ (a.nth 1).int = (b.nth 1).int) := by
  rw [← eqId, Bool.not_eq_true]
theorem has_put (k k' v : D) : ∀ es : List (D × D), mHasS [u64, u64] k (mPutS [u64, u64] k' v es) = (eqD idS k k' || mHasS [u64, u64] k es)
  | [] => by simp only [mPutS, mHasS]
  | (k1, v1) :: es => by
    cases h : eqD idS k' k1 with
    | true =>
      have h' := (eqId _ _).1 h
      have e : eqD idS k k' = eqD idS k k1 := by
        rw [Bool.eq_iff_iff, eqId, eqId, h'.1, h'.2]
      have e2 : mPutS [u64, u64] k' v ((k1, v1) :: es) = (k', v) :: es := by simp only [mPutS, h]
      rw [e2]
      show (eqD idS k k' || mHasS [u64, u64] k es) = (eqD idS k k' || (eqD idS k k1 || mHasS [u64, u64] k es))
      rw [e]; cases eqD idS k k1 <;> rfl
    | false =>
      have e2 : mPutS [u64, u64] k' v ((k1, v1) :: es) = (k1, v1) :: mPutS [u64, u64] k' v es := by simp only [mPutS, h]
      rw [e2]
      show (eqD idS k k1 || mHasS [u64, u64] k (mPutS [u64, u64] k' v es)) = (eqD idS k k' || (eqD idS k k1 || mHasS [u64, u64] k es))
      rw [has_put k k' v es]
      cases eqD idS k k1 <;> cases eqD idS k k' <;> rfl
theorem get_put (z k k' v : D) : ∀ es : List (D × D), mGetS [u64, u64] z k (mPutS [u64, u64] k' v es) = if eqD idS k k' = true then v else mGetS [u64, u64] z k es
  | [] => by
    show (match eqD idS k k' with | true => v | false => z) = _
    cases eqD idS k k' <;> rfl
  | (k1, v1) :: es => by
    cases h : eqD idS k' k1 with
    | true =>
      have h' := (eqId _ _).1 h
      have e : eqD idS k k' = eqD idS k k1 := by
        rw [Bool.eq_iff_iff, eqId, eqId, h'.1, h'.2]
      have e2 : mPutS [u64, u64] k' v ((k1, v1) :: es) = (k', v) :: es := by simp only [mPutS, h]
      rw [e2]
      show (match eqD idS k k' with | true => v | false => mGetS [u64, u64] z k es) = if eqD idS k k' = true then v else (match eqD idS k k1 with | true => v1 | false => mGetS [u64, u64] z k es)
      rw [e]; cases eqD idS k k1 <;> rfl
    | false =>
      have e2 : mPutS [u64, u64] k' v ((k1, v1) :: es) = (k1, v1) :: mPutS [u64, u64] k' v es := by simp only [mPutS, h]
      rw [e2]
      show (match eqD idS k k1 with | true => v1 | false => mGetS [u64, u64] z k (mPutS [u64, u64] k' v es)) = if eqD idS k k' = true then v else (match eqD idS k k1 with | true => v1 | false => mGetS [u64, u64] z k es)
      rw [get_put z k k' v es]
      cases h1 : eqD idS k k1 with
      | false => rfl
      | true =>
        have h2 : eqD idS k k' = false := by
          rw [eqId_false]; rw [eqId_false] at h; rw [eqId] at h1
          intro h3; exact h ⟨h3.1 ▸ h1.1, h3.2 ▸ h1.2⟩
        rw [h2]; rfl
def isId (l : List D) (d : D) (i : Nat) : Bool := eqD idS ((l.getD i .Z).nth 0) d
theorem eqId_comm (a b : D) : eqD idS a b = eqD idS b a := by
  rw [Bool.eq_iff_iff, eqId, eqId]
  exact ⟨fun h => ⟨h.1.symm, h.2.symm⟩, fun h => ⟨h.1.symm, h.2.symm⟩⟩
def fnd (l : List D) (d : D) : Nat → Nat
  | 0 => 0
  | n + 1 => if fnd l d n < n then fnd l d n else if isId l d n = true then n else n + 1
theorem fnd_none {l : List D} {d : D} : ∀ {n : Nat}, (∀ j, j < n → isId l d j = false) → fnd l d n = n
  | 0, _ => rfl
  | n + 1, h => by
    have e := fnd_none (l := l) (d := d) (n := n) fun j hj => h j (by omega)
    rw [fnd, if_neg (by omega), if_neg (by rw [h n (by omega)]; decide)]
theorem fnd_some {l : List D} {d : D} {i : Nat} (h : isId l d i = true) (h0 : ∀ j, j < i → isId l d j = false) : ∀ {n : Nat}, i < n → fnd l d n = i
  | n + 1, hn => by
    rcases Nat.lt_or_eq_of_le (Nat.le_of_lt_succ hn) with e | e
    · have e1 := fnd_some h h0 (n := n) e
      rw [fnd, if_pos (by omega)]; exact e1
    · subst e
      have e := fnd_none (l := l) (d := d) (n := i) h0
      rw [fnd, if_neg (by omega), if_pos h]
def fndE (l : List D) (d : D) : Int := if chkE l ≠ 0 then chkE l else if fnd l d l.length < l.length then 0 else 7
def fndV (l : List D) (d : D) : Int := if chkE l ≠ 0 then 0 else if fnd l d l.length < l.length then fnd l d l.length else 0
def sFind : Sum := ⟨[.slice storedS, idS], fun _ => none, fun
  | [l, d] => .tup [.dat i64 (.I (fndV l.list d)), .dat i64 (.I (fndE l.list d))]
  | _ => .und⟩
theorem find_1 {l : List D} {d : D} (h : chkE l ≠ 0) : fndE l d = chkE l ∧ fndV l d = 0 := ⟨if_pos h, if_pos h⟩
theorem find_no {l : List D} {d : D} (h : chkE l = 0) (h0 : ∀ j, j < l.length → isId l d j = false) : fndE l d = 7 ∧ fndV l d = 0 := by
  have e := fnd_none h0
  have hn : ¬ chkE l ≠ 0 := fun h' => h' h
  have hl : ¬ fnd l d l.length < l.length := by omega
  exact ⟨(if_neg hn).trans (if_neg hl), (if_neg hn).trans (if_neg hl)⟩
theorem find_yes {l : List D} {d : D} {i : Nat} (h : chkE l = 0) (hi : i < l.length) (h1 : isId l d i = true) (h0 : ∀ j, j < i → isId l d j = false) : fndE l d = 0 ∧ fndV l d = i := by
  have e := fnd_some h1 h0 hi
  have hn : ¬ chkE l ≠ 0 := fun h' => h' h
  have hl : fnd l d l.length < l.length := by omega
  exact ⟨(if_neg hn).trans (if_pos hl), (if_neg hn).trans ((if_pos hl).trans (by rw [e]))⟩
theorem badAt_all {l : List D} : ∀ {n : Nat}, badAt l n = n → ∀ i, i < n → (bad1 (l.getD i .Z) || bad2 l i) = false
  | n + 1, h, i, hi => by
    have hle := badAt_le l n
    rw [badAt] at h
    split at h
    · omega
    · split at h
      · omega
      · rename_i h1 h2
        rcases Nat.lt_or_eq_of_le (Nat.le_of_lt_succ hi) with e | e
        · exact badAt_all (by omega) i e
        · subst e; exact Bool.eq_false_iff.2 h2
theorem chk_all {l : List D} (h : chkE l = 0) : ∀ i, i < l.length → (bad1 (l.getD i .Z) || bad2 l i) = false := by
  have hl := chk_len h
  rw [chkE, if_neg (by omega)] at h
  split at h
  · split at h <;> cases h
  · have := badAt_le l l.length
    exact badAt_all (by omega)
theorem lst_ge {l : List D} (h : chkE l = 0) : ∀ {j : Nat}, j ≤ l.length → ∀ {i : Nat} {L : Int}, i < j → lbS (l.getD i .Z) = L → noS (l.getD i .Z) ≤ lstN l L j
  | j + 1, hj, i, L, hi, hL => by
    rw [lstN]
    by_cases hjl : lbS (l.getD j .Z) = L
    · rw [if_pos hjl]
      rcases Nat.lt_or_eq_of_le (Nat.le_of_lt_succ hi) with e | e
      · have h1 := lst_ge h (j := j) (by omega) e hL
        have h2 := chk_all h j (by omega)
        simp only [Bool.or_eq_false_iff, bad2, leB_false] at h2
        rw [hjl] at h2
        omega
      · subst e; exact Int.le_refl _
    · rw [if_neg hjl]
      rcases Nat.lt_or_eq_of_le (Nat.le_of_lt_succ hi) with e | e
      · exact lst_ge h (by omega) e hL
      · subst e; exact absurd hL hjl
theorem id_once {l : List D} (h : chkE l = 0) {d : D} {i j : Nat} (hij : i < j) (hj : j < l.length) (hd : isId l d j = true) : isId l d i = false := by
  rw [Bool.eq_false_iff]
  intro hi
  rw [isId, eqId] at hi hd
  have h1 := lst_ge h (j := j) (by omega) hij (L := lbS (l.getD j .Z)) (by show ((l.getD i .Z).nth 0 |>.nth 0).int = ((l.getD j .Z).nth 0 |>.nth 0).int; rw [hi.1, hd.1])
  have h2 := chk_all h j hj
  simp only [Bool.or_eq_false_iff, bad2, leB_false] at h2
  have h3 : noS (l.getD i .Z) = noS (l.getD j .Z) := by show ((l.getD i .Z).nth 0 |>.nth 1).int = ((l.getD j .Z).nth 0 |>.nth 1).int; rw [hi.2, hd.2]
  omega
def mpI (l : List D) : Nat → List (D × D)
  | 0 => []
  | i + 1 => mPutS [u64, u64] ((l.getD i .Z).nth 0) (.I (i : Int)) (mpI l i)
theorem mpI_no {l : List D} {d : D} : ∀ {k : Nat}, mHasS [u64, u64] d (mpI l k) = false → ∀ j, j < k → isId l d j = false
  | k + 1, h, j, hj => by
    rw [mpI, has_put, Bool.or_eq_false_iff] at h
    rcases Nat.lt_or_eq_of_le (Nat.le_of_lt_succ hj) with e | e
    · exact mpI_no h.2 j e
    · subst e; rw [isId, eqId_comm]; exact h.1
theorem mpI_yes {l : List D} {d z : D} : ∀ {k : Nat}, mHasS [u64, u64] d (mpI l k) = true → ∃ i, i < k ∧ isId l d i = true ∧ (mGetS [u64, u64] z d (mpI l k)).int = i
  | k + 1, h => by
    rw [mpI, has_put] at h
    rw [mpI, get_put]
    by_cases hk : eqD idS d ((l.getD k .Z).nth 0) = true
    · exact ⟨k, Nat.lt_succ_self k, by rw [isId, eqId_comm]; exact hk, by rw [if_pos hk]; rfl⟩
    · rw [Bool.eq_false_iff.2 hk, Bool.false_or] at h
      obtain ⟨i, h1, h2, h3⟩ := mpI_yes (z := z) h
      exact ⟨i, by omega, h2, by rw [if_neg hk]; exact h3⟩
theorem find_fun : FunOK cPr 100 Try.f21 sFind := fun l hl d hd _ => by
  refine ⟨fun h1 => ?_, fun h1 => ?_⟩
  · obtain ⟨e1, e2⟩ := find_1 (d := d) (bneT h1)
    exact ⟨Bears.int e2.symm, Bears.int e1.symm, trivial⟩
  have h0 : chkE l.list = 0 := bneF h1
  have hlen := chk_len h0
  refine ⟨{ k : Nat // k ≤ l.list.length }, 2, fun k => ([(24, .dat i64 (.I k.1)), (23, .dat i64 (.I l.list.length)), (22, .dat (.slice storedS) l), (8, .mp 1 idS i64), (3, .ptr 0 idS [] idS)], [(1, .map idS i64 (mpI l.list k.1)), (0, .box idS (.dat idS d))]), fun k => l.list.length - k.1,
    ⟨0, Nat.zero_le _⟩, ⟨[], rfl, ⟨rfl, rfl, rfl, rfl, rfl, trivial⟩, ⟨rfl, rfl, trivial⟩⟩, ?_⟩
  intro k
  obtain ⟨k, hk⟩ := k
  refine ⟨fun h1 => ⟨ix (ltN h1), ?_⟩, fun h1 => ⟨fun h2 => ?_, fun h2 => ?_⟩⟩
  · have hlt : k < l.list.length := ltN h1
    exact ⟨⟨k + 1, hlt⟩, ⟨[], rfl, ⟨slot (i64_1 (n := k) (by omega)), rfl, rfl, rfl, rfl, trivial⟩, ⟨rfl, rfl, trivial⟩⟩, stepLt hlt⟩
  all_goals have e := geN hk h1
  all_goals subst e
  · have h2 : (!mHasS [u64, u64] d (mpI l.list l.list.length)) = true := h2
    rw [Bool.not_eq_true'] at h2
    obtain ⟨e1, e2⟩ := find_no h0 (mpI_no h2)
    exact ⟨Bears.int e2.symm, Bears.int e1.symm, trivial⟩
  · have h2 : (!mHasS [u64, u64] d (mpI l.list l.list.length)) = false := h2
    rw [Bool.not_eq_false'] at h2
    obtain ⟨i, hi, hid, hg⟩ := mpI_yes (z := D0 i64) h2
    obtain ⟨e1, e2⟩ := find_yes h0 hi hid fun j hj => id_once h0 hj hi hid
    exact ⟨Bears.int (hg.trans e2.symm), Bears.int e1.symm, trivial⟩
theorem findR_fun : FunOK cFiR 100 Try.f22 sFind := fun l hl d hd _ => by
  refine ⟨fun h1 => ?_, fun h1 => ?_⟩
  · obtain ⟨e1, e2⟩ := find_1 (d := d) (bneT h1)
    exact ⟨Bears.int e2.symm, Bears.int e1.symm, trivial⟩
  have h0 : chkE l.list = 0 := bneF h1
  have hlen := chk_len h0
  refine ⟨{ k : Nat // k ≤ l.list.length ∧ ∀ j, j < k → isId l.list d j = false }, 1, fun k => ([(7, .dat i64 (.I k.1)), (3, .ptr 0 idS [] idS), (0, .dat (.slice storedS) l)], [(0, .box idS (.dat idS d))]), fun k => l.list.length - k.1,
    ⟨0, Nat.zero_le _, fun j hj => by omega⟩, ⟨[], rfl, ⟨rfl, rfl, rfl, trivial⟩, ⟨rfl, trivial⟩⟩, ?_⟩
  intro k
  obtain ⟨k, hk, hk0⟩ := k
  refine ⟨fun h1 => ⟨ix (ltN h1), by kernel_rfl, fun h2 => ?_, fun h2 => ?_⟩, fun h1 => ?_⟩
  · have hlt : k < l.list.length := ltN h1
    obtain ⟨e1, e2⟩ := find_yes h0 hlt h2 hk0
    exact ⟨Bears.int e2.symm, Bears.int e1.symm, trivial⟩
  · have hlt : k < l.list.length := ltN h1
    have h2 : isId l.list d k = false := h2
    refine ⟨⟨k + 1, hlt, fun j hj => ?_⟩, ⟨[], rfl, ⟨slot (i64_1 (n := k) (by omega)), rfl, rfl, trivial⟩, ⟨rfl, trivial⟩⟩, stepLt hlt⟩
    rcases Nat.lt_or_eq_of_le (Nat.le_of_lt_succ hj) with e | e
    · exact hk0 j e
    · subst e; exact h2
  · have e := geN hk h1
    subst e
    obtain ⟨e1, e2⟩ := find_no h0 hk0
    exact ⟨Bears.int e2.symm, Bears.int e1.symm, trivial⟩
end Go.Proofs.Ytmcgebhffdedpaa
