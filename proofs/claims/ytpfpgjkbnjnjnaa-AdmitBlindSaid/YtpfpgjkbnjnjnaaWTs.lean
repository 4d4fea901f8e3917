/- Sorting by a key, merging, in plain Lean. -/
import Derived.Test.YtpfpgjkbnjnjnaaWAa
namespace Go.Proofs.Ytpfpgjkbnjnjnaa
open Go Go.Vm
set_option linter.unusedSimpArgs false
set_option linter.unusedVariables false
theorem eqmp {P Q : Prop} (h : P = Q) (p : P) : Q := h ▸ p
theorem eqSame {s : Sh} {a b : D} (h : a = b) : Same s a b := h ▸ Same.rfl
theorem all_range {n : Nat} {p : Nat → Bool} (h : ∀ k, k < n → p k = true) : (List.range n).all p = true := by
  rw [List.all_eq_true]; intro k hk; exact h k (by simpa using hk)
theorem not_all_range {n k : Nat} {p : Nat → Bool} (hk : k < n) (h : p k = false) : (List.range n).all p = false := by
  rw [List.all_eq_false]; exact ⟨k, by simpa using hk, by simp [h]⟩
theorem upto {p : Nat → Prop} {i : Nat} (h : ∀ k, k < i → p k) (hi : p i) : ∀ k, k < i + 1 → p k := fun k hk => by
  rcases Nat.lt_or_eq_of_le (Nat.le_of_lt_succ hk) with h1 | rfl
  · exact h k h1
  · exact hi
theorem ltN {i n : Nat} (h : ltB (i : Int) (n : Int) = true) : i < n := by simp only [ltB_true] at h; omega
theorem geN {i n : Nat} (hi : i ≤ n) (h : ltB (i : Int) (n : Int) = false) : i = n := by simp only [ltB_false] at h; omega
theorem ltT {a b : Int} (h : ltB a b = true) : a < b := by simpa only [ltB_true] using h
theorem stepLt {i n : Nat} (h : i < n) : n - (i + 1) < n - i := by omega
theorem keyOne {s : Nat} {b : Bool} (h : KeyCond [(s, true, b)]) : b = true := h
theorem notSo {P : Prop} (h : P = (false = true)) (p : P) : False := by rw [h] at p; cases p
theorem getD_mem {l : List D} {i : Nat} (h : i < l.length) : l.getD i .Z ∈ l := by
  rw [List.getD_eq_getElem?_getD, List.getElem?_eq_getElem h]; exact List.getElem_mem h
theorem mem_getD {l : List D} {x : D} (h : x ∈ l) : ∃ i, i < l.length ∧ l.getD i .Z = x := by
  obtain ⟨i, hi, rfl⟩ := List.getElem_of_mem h
  exact ⟨i, hi, by rw [List.getD_eq_getElem?_getD, List.getElem?_eq_getElem hi]; rfl⟩
/-- A map of labels. -/
def ents (R : List Int) : List (D × D) := R.map fun y => (.I y, .B true)
theorem ents_len (R : List Int) : (ents R).length = R.length := by simp [ents]
theorem ents_has (k : Int) : ∀ R : List Int, mHas k (ents R) = R.contains k
  | [] => rfl
  | y :: R => by
    have := ents_has k R
    simp only [ents, List.map_cons, mHas, List.contains_cons] at this ⊢
    rw [this]
    congr 1
    rw [D.int_I, Bool.eq_iff_iff]; simp only [decide_eq_true_eq, beq_iff_eq]; exact eq_comm
theorem ents_get (k : Int) : ∀ R : List Int, (mGet (D0 .bool) k (ents R)).bool = R.contains k
  | [] => rfl
  | y :: R => by
    have := ents_get k R
    simp only [ents, List.map_cons, mGet, List.contains_cons] at this ⊢
    by_cases h : y = k
    · subst h; rw [if_pos (by rfl)]; simp
    · have h2 : (k == y) = false := by rw [beq_eq_false_iff_ne]; exact fun e => h e.symm
      rw [if_neg (by rw [D.int_I]; exact h), this, h2, Bool.false_or]
theorem ents_put {k : Int} {R : List Int} (h : R.contains k = false) : mPut (.I k) (.B true) (ents R) = ents (R ++ [k]) := by
  rw [mPut_new (by rw [D.int_I, ents_has, h])]
  simp [ents]
theorem ents_at (R : List Int) (i : Nat) (h : i < R.length) : ((ents R).getD i (.Z, .Z)).1 = .I (R.getD i 0) := by
  simp [ents, List.getD_eq_getElem?_getD, List.getElem?_eq_getElem h]
section
variable (key : D → Int)
/-- Behind all that are not greater. -/
def insR (x : D) (l : List D) : List D := l.takeWhile (fun y => decide (key y ≤ key x)) ++ x :: l.dropWhile (fun y => decide (key y ≤ key x))
def srt (l : List D) : List D := l.foldl (fun S x => insR key x S) []
def SortK (l : List D) : Prop := l.Pairwise fun a b => key a ≤ key b
variable {key}
theorem insR_perm (x : D) (l : List D) : (insR key x l).Perm (x :: l) := by
  rw [insR]
  refine List.perm_middle.trans ?_
  rw [List.takeWhile_append_dropWhile]
theorem foldl_perm (S l : List D) : (l.foldl (fun S x => insR key x S) S).Perm (S ++ l) := by
  induction l generalizing S with
  | nil => simp
  | cons x l ih =>
    rw [List.foldl_cons]
    refine (ih _).trans ?_
    refine ((insR_perm x S).append_right l).trans ?_
    exact (List.perm_middle (a := x) (l₁ := S) (l₂ := l)).symm
theorem srt_perm (l : List D) : (srt key l).Perm l := by
  have := foldl_perm (key := key) [] l
  simpa [srt] using this
theorem drop_gt {x : D} {l : List D} (hs : SortK key l) : ∀ y, y ∈ l.dropWhile (fun y => decide (key y ≤ key x)) → key x < key y := by
  induction l with
  | nil => intro y hy; simp at hy
  | cons a l ih =>
    rw [SortK, List.pairwise_cons] at hs
    intro y hy
    by_cases h : key a ≤ key x
    · rw [List.dropWhile_cons_of_pos (by simpa using h)] at hy
      exact ih hs.2 y hy
    · rw [List.dropWhile_cons_of_neg (by simpa using h)] at hy
      rcases List.mem_cons.1 hy with rfl | hy
      · omega
      · have := hs.1 y hy; omega
theorem take_le {x : D} {l : List D} : ∀ y, y ∈ l.takeWhile (fun y => decide (key y ≤ key x)) → key y ≤ key x := by
  induction l with
  | nil => intro y hy; simp at hy
  | cons a l ih =>
    intro y hy
    by_cases h : key a ≤ key x
    · rw [List.takeWhile_cons_of_pos (by simpa using h)] at hy
      rcases List.mem_cons.1 hy with rfl | hy
      · exact h
      · exact ih y hy
    · rw [List.takeWhile_cons_of_neg (by simpa using h)] at hy
      cases hy
theorem insR_sorted {x : D} {l : List D} (hs : SortK key l) : SortK key (insR key x l) := by
  have hs' := hs
  rw [SortK, ← List.takeWhile_append_dropWhile (p := fun y => decide (key y ≤ key x)) (l := l), List.pairwise_append] at hs
  rw [SortK, insR, List.pairwise_append, List.pairwise_cons]
  refine ⟨hs.1, ⟨fun y hy => Int.le_of_lt (drop_gt hs' y hy), hs.2.1⟩, fun a ha b hb => ?_⟩
  rcases List.mem_cons.1 hb with rfl | hb
  · exact take_le a ha
  · exact hs.2.2 a ha b hb
theorem foldl_sorted (S l : List D) (h : SortK key S) : SortK key (l.foldl (fun S x => insR key x S) S) := by
  induction l generalizing S with
  | nil => exact h
  | cons x l ih => rw [List.foldl_cons]; exact ih _ (insR_sorted h)
theorem srt_sorted (l : List D) : SortK key (srt key l) := foldl_sorted [] l List.Pairwise.nil
theorem srt_snoc (l : List D) (x : D) : srt key (l ++ [x]) = insR key x (srt key l) := by simp [srt, List.foldl_append]
theorem srt_len (l : List D) : (srt key l).length = l.length := (srt_perm l).length_eq
/-- Where an element comes to stand. -/
theorem insR_at {x : D} {l : List D} {j : Nat} (hj : j ≤ l.length) (h1 : ∀ k, k < j → key (l.getD k .Z) ≤ key x) (h2 : ∀ k, j ≤ k → k < l.length → key x < key (l.getD k .Z)) : insR key x l = l.take j ++ x :: l.drop j := by
  have key' : ∀ (l : List D) (j : Nat), j ≤ l.length → (∀ k, k < j → key (l.getD k .Z) ≤ key x) → (∀ k, j ≤ k → k < l.length → key x < key (l.getD k .Z)) →
      l.takeWhile (fun y => decide (key y ≤ key x)) = l.take j ∧ l.dropWhile (fun y => decide (key y ≤ key x)) = l.drop j := by
    intro l
    induction l with
    | nil => intro j hj _ _; simp
    | cons a l ih =>
      intro j hj h1 h2
      cases j with
      | zero =>
        have := h2 0 (Nat.le_refl _) (by simp)
        have h : ¬ key a ≤ key x := by simpa using this
        rw [List.takeWhile_cons_of_neg (by simpa using h), List.dropWhile_cons_of_neg (by simpa using h)]
        simp
      | succ j =>
        have h : key a ≤ key x := by simpa using h1 0 (by omega)
        rw [List.takeWhile_cons_of_pos (by simpa using h), List.dropWhile_cons_of_pos (by simpa using h)]
        have := ih j (by simpa using hj) (fun k hk => by simpa using h1 (k + 1) (by omega)) (fun k hk hl => by simpa using h2 (k + 1) (by omega) (by simpa using hl))
        rw [this.1, this.2]; simp
  have := key' l j hj h1 h2
  rw [insR, this.1, this.2]
/-- Sorted and without equal keys: there is just one such list. -/
def Strict (key : D → Int) (l : List D) : Prop := l.Pairwise fun a b => key a < key b
theorem strict_unique {l m : List D} (h : Strict key l) (h2 : Strict key m) (hp : l.Perm m) : l = m :=
  List.Perm.eq_of_pairwise (fun a b _ _ h1 h2 => absurd h1 (by omega)) h h2 hp
theorem strict_nodup {l : List D} (h : Strict key l) : (l.map key).Nodup := by
  rw [List.Nodup, List.pairwise_map]
  exact h.imp fun h => by omega
theorem strict_of {l : List D} (h : SortK key l) (hn : (l.map key).Nodup) : Strict key l := by
  rw [List.Nodup, List.pairwise_map] at hn
  exact List.Pairwise.imp₂ (fun a b h1 h2 => by omega) h hn
/-- Neighbours are in order. -/
theorem strict_of_adj {l : List D} (h : ∀ i, i + 1 < l.length → key (l.getD i .Z) < key (l.getD (i + 1) .Z)) : Strict key l := by
  rw [Strict, List.pairwise_iff_getElem]
  intro i j hi hj hij
  have step : ∀ n, ∀ i, i + n + 1 < l.length → key (l.getD i .Z) < key (l.getD (i + n + 1) .Z) := by
    intro n
    induction n with
    | zero => intro i hi; exact h i hi
    | succ n ih =>
      intro i hi
      have h1 := ih i (by omega)
      have h2 := h (i + n + 1) (by omega)
      have e : i + (n + 1) + 1 = i + n + 1 + 1 := by omega
      rw [e]; omega
  have := step (j - i - 1) i (by omega)
  have e : i + (j - i - 1) + 1 = j := by omega
  rw [e] at this
  rw [List.getD_eq_getElem?_getD, List.getD_eq_getElem?_getD, List.getElem?_eq_getElem hi, List.getElem?_eq_getElem hj] at this
  exact this
theorem sortK_le {l : List D} (h : SortK key l) {i j : Nat} (hij : i ≤ j) (hj : j < l.length) : key (l.getD i .Z) ≤ key (l.getD j .Z) := by
  rcases Nat.lt_or_eq_of_le hij with h1 | rfl
  · have := List.pairwise_iff_getElem.1 h i j (by omega) hj h1
    rw [List.getD_eq_getElem?_getD, List.getD_eq_getElem?_getD, List.getElem?_eq_getElem (by omega), List.getElem?_eq_getElem hj]
    exact this
  · exact Int.le_refl _
/-- How far the sorting has come: one of the first i + 1 is on its way, at j. -/
def goS (key : D → Int) (F : List D) (i j : Nat) : List D := (srt key (F.take i)).take j ++ F.getD i .Z :: ((srt key (F.take i)).drop j ++ F.drop (i + 1))
theorem srt_take_len {F : List D} {i : Nat} (hi : i ≤ F.length) : (srt key (F.take i)).length = i := by rw [srt_len, List.length_take]; omega
theorem goS_len {F : List D} {i j : Nat} (hi : i < F.length) (hj : j ≤ i) : (goS key F i j).length = F.length := by
  have := srt_take_len (key := key) (F := F) (i := i) (by omega)
  simp only [goS, List.length_append, List.length_cons, List.length_take, List.length_drop]
  omega
theorem goS_lo {F : List D} {i j k : Nat} (hi : i < F.length) (hj : j ≤ i) (hk : k < j) : (goS key F i j).getD k .Z = (srt key (F.take i)).getD k .Z := by
  have := srt_take_len (key := key) (F := F) (i := i) (by omega)
  rw [goS, List.getD_eq_getElem?_getD, List.getElem?_append_left (by rw [List.length_take]; omega), List.getElem?_take, if_pos hk, List.getD_eq_getElem?_getD]
theorem goS_at {F : List D} {i j : Nat} (hi : i < F.length) (hj : j ≤ i) : (goS key F i j).getD j .Z = F.getD i .Z := by
  have := srt_take_len (key := key) (F := F) (i := i) (by omega)
  have hl : ((srt key (F.take i)).take j).length = j := by rw [List.length_take]; omega
  rw [goS, List.getD_eq_getElem?_getD, List.getElem?_append_right (by omega), hl, Nat.sub_self]; rfl
theorem swap2 (P T : List D) (a x : D) : ((P ++ a :: x :: T).set (P.length + 1) a).set P.length x = P ++ x :: a :: T := by
  induction P with
  | nil => rfl
  | cons p P ih => simp [ih]
theorem goS_swap {F : List D} {i j : Nat} (hi : i < F.length) (hj : j < i) : ((goS key F i (j + 1)).set (j + 1) ((goS key F i (j + 1)).getD j .Z)).set j ((goS key F i (j + 1)).getD (j + 1) .Z) = goS key F i j := by
  have hl := srt_take_len (key := key) (F := F) (i := i) (by omega)
  rw [goS_at hi (by omega), goS_lo hi (by omega) (by omega)]
  obtain ⟨S, hS⟩ : ∃ S, S = srt key (F.take i) := ⟨_, rfl⟩
  have e1 : S.take (j + 1) = S.take j ++ [S.getD j .Z] := by
    rw [List.take_add_one, List.getD_eq_getElem?_getD, List.getElem?_eq_getElem (by rw [hS, hl]; exact hj)]; rfl
  have e2 : S.drop j = S.getD j .Z :: S.drop (j + 1) := by
    rw [List.getD_eq_getElem?_getD, List.getElem?_eq_getElem (by rw [hS, hl]; exact hj)]
    exact List.drop_eq_getElem_cons (by rw [hS, hl]; exact hj)
  have hPl : (S.take j).length = j := by rw [List.length_take, hS, hl]; omega
  rw [goS, goS, ← hS, e1, e2]
  have := swap2 (S.take j) (S.drop (j + 1) ++ F.drop (i + 1)) (S.getD j .Z) (F.getD i .Z)
  rw [hPl] at this
  simpa using this
theorem goS_start {F : List D} {i : Nat} (hi : i < F.length) : srt key (F.take i) ++ F.drop i = goS key F i i := by
  have hl := srt_take_len (key := key) (F := F) (i := i) (by omega)
  have e : F.drop i = F.getD i .Z :: F.drop (i + 1) := by
    rw [List.getD_eq_getElem?_getD, List.getElem?_eq_getElem hi]; exact List.drop_eq_getElem_cons hi
  rw [goS, List.take_of_length_le (Nat.le_of_eq hl), List.drop_of_length_le (Nat.le_of_eq hl), List.nil_append, e]
theorem goS_end {F : List D} {i j : Nat} (hi : i < F.length) (hj : j ≤ i) (h1 : ∀ k, j ≤ k → k < i → key (F.getD i .Z) < key ((srt key (F.take i)).getD k .Z)) (h2 : 0 < j → key ((srt key (F.take i)).getD (j - 1) .Z) ≤ key (F.getD i .Z)) :
    goS key F i j = srt key (F.take (i + 1)) ++ F.drop (i + 1) := by
  have hl := srt_take_len (key := key) (F := F) (i := i) (by omega)
  have e : F.take (i + 1) = F.take i ++ [F.getD i .Z] := by
    rw [List.take_add_one, List.getD_eq_getElem?_getD, List.getElem?_eq_getElem hi]; rfl
  rw [e, srt_snoc, insR_at (j := j) (by omega) (fun k hk => ?_) (fun k hk hkl => h1 k hk (by omega)), goS]
  · simp
  · have h3 := h2 (by omega)
    have h4 := sortK_le (srt_sorted (key := key) (F.take i)) (i := k) (j := j - 1) (by omega) (by omega)
    omega
/-! ### Merging -/
def flat (ls : List (List D)) : List D := ls.flatten
structure Mrg (key : D → Int) (L : List (List D)) (Y : List D) (ls : List (List D)) : Prop where
  len : ls.length = L.length
  each : ∀ l, l ∈ ls → SortK key l
  perm : (Y ++ flat ls).Perm (flat L)
  ys : SortK key Y
  le : ∀ y, y ∈ Y → ∀ z, z ∈ flat ls → key y ≤ key z
theorem Mrg.start {L : List (List D)} (h : ∀ l, l ∈ L → SortK key l) : Mrg key L [] L := ⟨rfl, h, by simp [List.Perm.refl], List.Pairwise.nil, fun y hy => by cases hy⟩
/-- The number of the first list with a least first element, among the first i. -/
structure Fst (key : D → Int) (ls : List (List D)) (i : Nat) (f : Int) : Prop where
  none : f < 0 → f = -1 ∧ ∀ k, k < i → ls.getD k [] = []
  some : 0 ≤ f → f < i ∧ ls.getD f.toNat [] ≠ [] ∧ ∀ k, k < i → ls.getD k [] ≠ [] → key ((ls.getD f.toNat []).getD 0 .Z) ≤ key ((ls.getD k []).getD 0 .Z)
theorem Fst.start (ls : List (List D)) : Fst key ls 0 (-1) := ⟨fun _ => ⟨rfl, fun k hk => by omega⟩, fun h => by omega⟩
theorem Fst.skip {ls : List (List D)} {i : Nat} {f : Int} (h : Fst key ls i f) (hs : ls.getD i [] = [] ∨ (0 ≤ f ∧ key ((ls.getD f.toNat []).getD 0 .Z) ≤ key ((ls.getD i []).getD 0 .Z))) : Fst key ls (i + 1) f := by
  refine ⟨fun hf => ⟨(h.none hf).1, upto (h.none hf).2 ?_⟩, fun hf => ⟨by have := (h.some hf).1; omega, (h.some hf).2.1, fun k hk hne => ?_⟩⟩
  · rcases hs with hs | hs
    · exact hs
    · omega
  · rcases Nat.lt_or_eq_of_le (Nat.le_of_lt_succ hk) with h1 | rfl
    · exact (h.some hf).2.2 k h1 hne
    · rcases hs with hs | hs
      · exact absurd hs hne
      · exact hs.2
theorem Fst.take {ls : List (List D)} {i : Nat} {f : Int} (h : Fst key ls i f) (hne : ls.getD i [] ≠ []) (hs : f < 0 ∨ key ((ls.getD i []).getD 0 .Z) < key ((ls.getD f.toNat []).getD 0 .Z)) : Fst key ls (i + 1) i := by
  refine ⟨fun hf => by omega, fun _ => ⟨by omega, by rw [Int.toNat_natCast]; exact hne, fun k hk hk2 => ?_⟩⟩
  rw [Int.toNat_natCast]
  rcases Nat.lt_or_eq_of_le (Nat.le_of_lt_succ hk) with h1 | rfl
  · rcases hs with hs | hs
    · exact absurd ((h.none hs).2 k h1) hk2
    · by_cases hf : f < 0
      · exact absurd ((h.none hf).2 k h1) hk2
      · have := (h.some (by omega)).2.2 k h1 hk2; omega
  · exact Int.le_refl _
theorem flat_set {ls : List (List D)} {f : Nat} {x : D} {t : List D} (hf : f < ls.length) (h : ls.getD f [] = x :: t) : (flat ls).Perm (x :: flat (ls.set f t)) := by
  induction ls generalizing f with
  | nil => simp at hf
  | cons l ls ih =>
    cases f with
    | zero =>
      have h : l = x :: t := h
      subst h
      simp only [List.set_cons_zero, flat, List.flatten_cons, List.cons_append]
      exact List.Perm.refl _
    | succ f =>
      have := ih (f := f) (by simpa using hf) (by simpa using h)
      simp only [List.set_cons_succ, flat, List.flatten_cons] at this ⊢
      exact (this.append_left l).trans List.perm_middle
theorem getD_memL {ls : List (List D)} {f : Nat} (h : f < ls.length) : ls.getD f [] ∈ ls := by
  rw [List.getD_eq_getElem?_getD, List.getElem?_eq_getElem h]; exact List.getElem_mem h
/-- One element goes over. -/
theorem Mrg.step {L ls : List (List D)} {Y : List D} {f : Int} (h : Mrg key L Y ls) (hf : Fst key ls ls.length f) (h0 : 0 ≤ f) :
    Mrg key L (Y ++ [(ls.getD f.toNat []).getD 0 .Z]) (ls.set f.toNat ((ls.getD f.toNat []).drop 1)) := by
  obtain ⟨h1, h2, h3⟩ := hf.some h0
  have hlt : f.toNat < ls.length := by omega
  obtain ⟨x, t, hx⟩ : ∃ x t, ls.getD f.toNat [] = x :: t := by
    cases hl : ls.getD f.toNat [] with
    | nil => exact absurd hl h2
    | cons x t => exact ⟨x, t, rfl⟩
  have hmem := getD_memL hlt
  have hfs := flat_set hlt hx
  rw [hx] at h3 hmem ⊢
  have e0 : (x :: t).getD 0 .Z = x := rfl
  have e1 : (x :: t).drop 1 = t := rfl
  rw [e0] at h3 ⊢
  rw [e1]
  have hxs := h.each _ hmem
  rw [SortK, List.pairwise_cons] at hxs
  have hmin : ∀ z, z ∈ flat ls → key x ≤ key z := by
    intro z hz
    rw [flat, List.mem_flatten] at hz
    obtain ⟨l, hl, hzl⟩ := hz
    obtain ⟨k, hk, rfl⟩ := List.getElem_of_mem hl
    have hs := h.each _ (List.getElem_mem hk)
    have hkne : ls.getD k [] ≠ [] := by
      rw [List.getD_eq_getElem?_getD, List.getElem?_eq_getElem hk, Option.getD_some]
      intro e; rw [e] at hzl; cases hzl
    have h4 := h3 k hk hkne
    rw [List.getD_eq_getElem?_getD (l := ls), List.getElem?_eq_getElem hk, Option.getD_some] at h4
    cases hl2 : ls[k] with
    | nil => rw [hl2] at hzl; cases hzl
    | cons a b =>
      rw [hl2] at h4 hzl hs
      have h4 : key x ≤ key a := h4
      rw [SortK, List.pairwise_cons] at hs
      rcases List.mem_cons.1 hzl with rfl | hzl
      · exact h4
      · have := hs.1 z hzl; omega
  refine ⟨by rw [List.length_set]; exact h.len, fun l hl => ?_, ?_, ?_, ?_⟩
  · rcases List.mem_or_eq_of_mem_set hl with h5 | rfl
    · exact h.each l h5
    · exact hxs.2
  · refine List.Perm.trans ?_ h.perm
    rw [List.append_assoc]
    exact (hfs.symm).append_left Y
  · rw [SortK, List.pairwise_append]
    refine ⟨h.ys, by simp, fun a ha b hb => ?_⟩
    rw [List.mem_singleton] at hb; subst hb
    exact h.le a ha b (hfs.mem_iff.2 (List.mem_cons_self ..))
  · intro y hy z hz
    have hz2 : z ∈ flat ls := hfs.mem_iff.2 (List.mem_cons_of_mem _ hz)
    rcases List.mem_append.1 hy with hy | hy
    · exact h.le y hy z hz2
    · rw [List.mem_singleton] at hy; subst hy; exact hmin z hz2
theorem flat_none {ls : List (List D)} (h : ∀ k, k < ls.length → ls.getD k [] = []) : flat ls = [] := by
  rw [flat, List.flatten_eq_nil_iff]
  intro l hl
  obtain ⟨k, hk, rfl⟩ := List.getElem_of_mem hl
  have := h k hk
  rwa [List.getD_eq_getElem?_getD, List.getElem?_eq_getElem hk] at this
/-- All have gone over. -/
theorem Mrg.done {L ls : List (List D)} {Y : List D} {f : Int} (h : Mrg key L Y ls) (hf : Fst key ls ls.length f) (h0 : f < 0) : Y.Perm (flat L) ∧ SortK key Y := by
  have := flat_none (hf.none h0).2
  have hp := h.perm
  rw [this, List.append_nil] at hp
  exact ⟨hp, h.ys⟩
/-- What is still to come, in order. -/
theorem Mrg.whole {L ls : List (List D)} {Y : List D} (h : Mrg key L Y ls) : SortK key (Y ++ srt key (flat ls)) ∧ (Y ++ srt key (flat ls)).Perm (flat L) := by
  refine ⟨?_, ((srt_perm (flat ls)).append_left Y).trans h.perm⟩
  rw [SortK, List.pairwise_append]
  exact ⟨h.ys, srt_sorted _, fun a ha b hb => h.le a ha b ((srt_perm (flat ls)).mem_iff.1 hb)⟩
theorem srt_eq {l m : List D} (hn : (l.map key).Nodup) (hp : m.Perm l) (hs : SortK key m) : m = srt key l := by
  have hnm : (m.map key).Nodup := (hp.map key).nodup_iff.2 hn
  have hns : ((srt key l).map key).Nodup := ((srt_perm l).map key).nodup_iff.2 hn
  exact strict_unique (strict_of hs hnm) (strict_of (srt_sorted l) hns) (hp.trans (srt_perm l).symm)
theorem mapL_get {ls : List (List D)} {k : Nat} (hk : k < ls.length) : ((ls.map D.L).getD k .Z).list = ls.getD k [] := by
  simp [List.getD_eq_getElem?_getD, List.getElem?_eq_getElem hk]
theorem setL_drop (ls : List (List D)) (n : Nat) : (ls.map D.L).set n (.L (((ls.getD n []).drop (1 : Int).toNat).take (((ls.getD n []).length : Int) - 1).toNat)) = (ls.set n ((ls.getD n []).drop 1)).map D.L := by
  rw [List.map_set]
  congr 2
  rw [List.take_of_length_le]
  · rfl
  · rw [List.length_drop]; simp
theorem Mrg.count {L ls : List (List D)} {Y : List D} (h : Mrg key L Y ls) : Y.length + (flat ls).length = (flat L).length := by
  have := h.perm.length_eq
  rwa [List.length_append] at this
end
end Go.Proofs.Ytpfpgjkbnjnjnaa
