/- To which labels a label can come, in plain Lean. -/
import Derived.Test.YtjjpeeppfnhiiaaWPc
import Derived.Test.YtjjpeeppfnhiiaaWPs
namespace Go.Proofs.Ytjjpeeppfnhiiaa
open Go Go.Vm
set_option linter.unusedSimpArgs false
set_option linter.unusedVariables false
set_option maxRecDepth 10000
def rA (r : D) : Int := (r.nth 1).int
def rR (r : D) : Int := (r.nth 2).int
/-- To which labels x can come by the rules l. -/
inductive Rch (l : List D) (x : Int) : Int → Prop
  | here : Rch l x x
  | step {y : Int} {r : D} : Rch l x y → r ∈ l → belowB y (rA r) = true → Rch l x (rR r)
def okR (R : List Int) (r : D) : Bool := R.any (fun y => belowB y (rA r)) && !R.contains (rR r)
def newN (l : List D) (R : List Int) : Nat := l.countP fun r => !R.contains (rR r)
structure Good (l : List D) (x : Int) (R : List Int) : Prop where
  nd : R.Nodup
  here : x ∈ R
  rch : ∀ y, y ∈ R → Rch l x y
  len : R.length + newN l R ≤ 1 + l.length
theorem good_one (l : List D) (x : Int) : Good l x [x] := by
  refine ⟨by simp, by simp, fun y hy => ?_, ?_⟩
  · rw [List.mem_singleton] at hy; subst hy; exact .here
  · have : newN l [x] ≤ l.length := List.countP_le_length
    simp only [List.length_cons, List.length_nil]; omega
theorem countP_lt {α : Type} {p q : α → Bool} {a : α} : ∀ {l : List α}, a ∈ l → (∀ b, p b = true → q b = true) → q a = true → p a = false → l.countP p < l.countP q
  | [], h, _, _, _ => by cases h
  | b :: l, h, hpq, hq, hp => by
    have le : l.countP p ≤ l.countP q := List.countP_mono_left fun q _ => hpq q
    rw [List.countP_cons, List.countP_cons]
    rcases List.mem_cons.1 h with e | h
    · subst e
      rw [hq, hp]; simp only [Bool.false_eq_true, if_false, if_true]; omega
    · have := countP_lt h hpq hq hp
      by_cases h3 : p b = true
      · rw [if_pos h3, if_pos (hpq b h3)]; omega
      · rw [if_neg h3]; split <;> omega
theorem newN_lt {l : List D} {R : List Int} {r : D} (hr : r ∈ l) (h : R.contains (rR r) = false) : newN l (R ++ [rR r]) < newN l R := by
  refine countP_lt hr (fun b hb => ?_) (by rw [h]; rfl) (by simp)
  simp only [List.contains_eq_mem, List.mem_append, List.mem_singleton, Bool.not_eq_true', decide_eq_false_iff_not, not_or] at hb ⊢
  exact hb.1
/-- How many of n places were not seen. -/
def leftN (n : Nat) (s : List Nat) : Nat := (List.range n).countP fun i => !s.contains i
theorem leftN_lt {n i : Nat} {s : List Nat} (hi : i < n) (h : i ∉ s) : leftN n (i :: s) < leftN n s := by
  refine countP_lt (a := i) (by simpa using hi) (fun b hb => ?_) (by simpa [List.contains_eq_mem] using h) (by simp)
  simp only [List.contains_eq_mem, List.mem_cons, Bool.not_eq_true', decide_eq_false_iff_not, not_or] at hb ⊢
  exact hb.2
structure SeenI (n : Nat) (s : List Nat) : Prop where
  nd : s.Nodup
  lt : ∀ i, i ∈ s → i < n
theorem SeenI.nil {n : Nat} : SeenI n [] := ⟨by simp, fun _ h => by cases h⟩
theorem SeenI.add {n i : Nat} {s : List Nat} (h : SeenI n s) (hi : i < n) (hn : i ∉ s) : SeenI n (i :: s) := by
  refine ⟨List.nodup_cons.2 ⟨hn, h.nd⟩, fun k hk => ?_⟩
  rcases List.mem_cons.1 hk with h1 | h1
  · subst h1; exact hi
  · exact h.lt k h1
theorem SeenI.all {n : Nat} {s : List Nat} (h : SeenI n s) (ha : ∀ i, i < n → i ∈ s) : s.Perm (List.range n) :=
  (List.perm_ext_iff_of_nodup h.nd List.nodup_range).2 fun i => by rw [List.mem_range]; exact ⟨h.lt i, ha i⟩
theorem SeenI.len {n : Nat} {s : List Nat} (h : SeenI n s) : s.length ≤ n := by
  have h1 : ∀ {n : Nat} {s : List Nat}, s.Nodup → (∀ i, i ∈ s → i < n) → s.length ≤ n := by
    intro n
    induction n with
    | zero => intro s _ h; cases s with
      | nil => simp
      | cons a s => exact absurd (h a (by simp)) (by omega)
    | succ n ih =>
      intro s hn hl
      have h2 := ih (s := s.erase n) (hn.erase n) fun i hi => by
        have h3 := hl i (List.mem_of_mem_erase hi)
        have h4 : i ≠ n := fun e => by subst e; exact (hn.not_mem_erase) hi
        omega
      have h5 := List.length_erase_of_mem (a := n) (l := s)
      by_cases hm : n ∈ s
      · have := h5 hm; omega
      · rw [List.erase_of_not_mem hm] at h2; omega
  exact h1 h.nd h.lt
theorem map_range_getD (R : List Int) : (List.range R.length).map (fun i => R.getD i 0) = R := by
  apply List.ext_getElem
  · simp
  · intro i h1 h2
    rw [List.getElem_map, List.getElem_range]
    simp [List.getD_eq_getElem?_getD, List.getElem?_eq_getElem h2]
theorem SeenI.perm {R : List Int} {s : List Nat} (h : SeenI R.length s) (ha : ∀ i, i < R.length → i ∈ s) : (s.map fun i => R.getD i 0).Perm R := by
  have := (h.all ha).map fun i => R.getD i 0
  rwa [map_range_getD] at this
def ents (R : List Int) : List (D × D) := R.map fun y => (.I y, .B true)
theorem ents_len (R : List Int) : (ents R).length = R.length := by simp [ents]
theorem ents_has (k : Int) : ∀ R : List Int, mHas k (ents R) = R.contains k
  | [] => rfl
  | y :: R => by
    have := ents_has k R
    simp only [ents, List.map_cons, mHas, List.contains_cons] at this ⊢
    rw [this]
    congr 1
    rw [D.int_I, Bool.eq_iff_iff]; simp only [decide_eq_true_eq, beq_iff_eq]; exact eq_comm
theorem ents_get (k : Int) : ∀ R : List Int, (mGet (D0 .bool) k (ents R)).bool = R.contains k
  | [] => rfl
  | y :: R => by
    have := ents_get k R
    simp only [ents, List.map_cons, mGet, List.contains_cons] at this ⊢
    by_cases h : y = k
    · subst h; rw [if_pos (by rfl)]; simp
    · have h2 : (k == y) = false := by rw [beq_eq_false_iff_ne]; exact fun e => h e.symm
      rw [if_neg (by rw [D.int_I]; exact h), this, h2, Bool.false_or]
theorem ents_put {k : Int} {R : List Int} (h : R.contains k = false) : mPut (.I k) (.B true) (ents R) = ents (R ++ [k]) := by
  rw [mPut_new (by rw [D.int_I, ents_has, h])]
  simp [ents]
theorem ents_at (R : List Int) (i : Nat) (h : i < R.length) : ((ents R).getD i (.Z, .Z)).1 = .I (R.getD i 0) := by
  simp [ents, List.getD_eq_getElem?_getD, List.getElem?_eq_getElem h]
theorem okR_iff {R : List Int} {r : D} : okR R r = true ↔ (∃ y, y ∈ R ∧ belowB y (rA r) = true) ∧ rR r ∉ R := by
  simp [okR, List.contains_eq_mem]
theorem good_step {l : List D} {x : Int} {R : List Int} {r : D} (h : Good l x R) (hr : r ∈ l) (ho : okR R r = true) : Good l x (R ++ [rR r]) := by
  obtain ⟨⟨y, hy, hb⟩, hn⟩ := okR_iff.1 ho
  refine ⟨?_, by simp [h.here], fun z hz => ?_, ?_⟩
  · rw [List.nodup_append]
    exact ⟨h.nd, by simp, fun a ha b hb e => by rw [List.mem_singleton] at hb; subst hb; subst e; exact hn ha⟩
  · rcases List.mem_append.1 hz with hz | hz
    · exact h.rch z hz
    · rw [List.mem_singleton] at hz; subst hz
      exact .step (h.rch y hy) hr hb
  · have h1 := newN_lt (R := R) hr (by simpa [List.contains_eq_mem] using hn)
    have h2 := h.len
    simp only [List.length_append, List.length_cons, List.length_nil]; omega
def Closed (l : List D) (R : List Int) : Prop := ∀ r, r ∈ l → okR R r = false
theorem closed_mem {l : List D} {x : Int} {R : List Int} (h : Good l x R) (hc : Closed l R) {y : Int} (hy : Rch l x y) : y ∈ R := by
  induction hy with
  | here => exact h.here
  | step _ hr hb ih =>
    have := hc _ hr
    rw [Bool.eq_false_iff, ne_eq, okR_iff] at this
    exact Decidable.not_not.1 fun hn => this ⟨⟨_, ih, hb⟩, hn⟩
def closS (l : List D) : Nat → List Int → List Int
  | 0, R => R
  | n + 1, R => match l.find? (okR R) with
    | none => R
    | some r => closS l n (R ++ [rR r])
theorem closS_ok {l : List D} {x : Int} : ∀ {n : Nat} {R : List Int}, Good l x R → newN l R ≤ n → Good l x (closS l n R) ∧ Closed l (closS l n R)
  | 0, R, h, hn => by
    refine ⟨h, fun r hr => ?_⟩
    rw [Bool.eq_false_iff, ne_eq, okR_iff]
    rintro ⟨_, h2⟩
    have : newN l R ≠ 0 := by
      rw [newN, ← Nat.pos_iff_ne_zero, List.countP_pos_iff]
      exact ⟨r, hr, by simpa [List.contains_eq_mem, closS] using h2⟩
    omega
  | n + 1, R, h, hn => by
    rw [closS]
    split
    · rename_i hf
      refine ⟨h, fun r hr => ?_⟩
      rw [List.find?_eq_none] at hf
      simpa using hf r hr
    · rename_i r hf
      have hr := List.mem_of_find?_eq_some hf
      have ho := List.find?_some hf
      have := newN_lt (R := R) hr (by simpa [List.contains_eq_mem] using (okR_iff.1 ho).2)
      exact closS_ok (good_step h hr ho) (by omega)
/-- The labels, in order. -/
def flowI (l : List D) (x : Int) : List Int := sortI (closS l l.length [x])
theorem clos_ok (l : List D) (x : Int) : Good l x (closS l l.length [x]) ∧ Closed l (closS l l.length [x]) := closS_ok (good_one l x) List.countP_le_length
theorem flow_eq {l : List D} {x : Int} {R : List Int} (h : Good l x R) (hc : Closed l R) {S : List Int} (hp : S.Perm R) : sortI S = flowI l x := by
  have hk := clos_ok l x
  have : S.Perm (closS l l.length [x]) := by
    refine hp.trans ((List.perm_ext_iff_of_nodup h.nd hk.1.nd).2 fun y => ⟨fun hy => closed_mem hk.1 hk.2 (h.rch y hy), fun hy => closed_mem h hc (hk.1.rch y hy)⟩)
  exact sorted_eq (sortI_sorted S) ((sortI_perm S).trans this)
theorem flow_mem {l : List D} {x y : Int} : y ∈ flowI l x ↔ Rch l x y := by
  have hk := clos_ok l x
  rw [flowI, (sortI_perm _).mem_iff]
  exact ⟨hk.1.rch y, closed_mem hk.1 hk.2⟩
theorem flow_nd (l : List D) (x : Int) : (flowI l x).Nodup := (sortI_perm _).nodup_iff.2 (clos_ok l x).1.nd
theorem flow_len (l : List D) (x : Int) : (flowI l x).length ≤ 1 + l.length := by
  rw [flowI, sortI_len]; have := (clos_ok l x).1.len; omega
end Go.Proofs.Ytjjpeeppfnhiiaa
