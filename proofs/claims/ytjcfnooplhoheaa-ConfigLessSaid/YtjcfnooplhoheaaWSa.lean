/- Sorting, in plain Lean. -/
import Derived.Test.YtjcfnooplhoheaaWAa
namespace Go.Proofs.Ytjcfnooplhoheaa
open Go Go.Vm
set_option linter.unusedSimpArgs false
set_option linter.unusedVariables false
set_option maxRecDepth 10000
def insI (x : Int) : List Int → List Int
  | [] => [x]
  | y :: ys => if x ≤ y then x :: y :: ys else y :: insI x ys
def sortI : List Int → List Int
  | [] => []
  | x :: xs => insI x (sortI xs)
theorem insI_perm (x : Int) : ∀ l, (insI x l).Perm (x :: l)
  | [] => List.Perm.refl _
  | y :: ys => by
    rw [insI]
    split
    · exact List.Perm.refl _
    · exact ((insI_perm x ys).cons y).trans (List.Perm.swap x y ys)
theorem sortI_perm : ∀ l, (sortI l).Perm l
  | [] => List.Perm.refl _
  | x :: xs => (insI_perm x _).trans ((sortI_perm xs).cons x)
theorem insI_sorted {x : Int} : ∀ {l : List Int}, l.Pairwise (· ≤ ·) → (insI x l).Pairwise (· ≤ ·)
  | [], _ => by simp [insI]
  | y :: ys, h => by
    rw [insI]
    rw [List.pairwise_cons] at h
    split
    · rename_i hxy
      rw [List.pairwise_cons, List.pairwise_cons]
      refine ⟨fun z hz => ?_, h⟩
      rcases List.mem_cons.1 hz with rfl | hz
      · exact hxy
      · have := h.1 z hz; omega
    · rename_i hxy
      rw [List.pairwise_cons]
      refine ⟨fun z hz => ?_, insI_sorted h.2⟩
      rcases List.mem_cons.1 ((insI_perm x ys).mem_iff.1 hz) with rfl | hz
      · omega
      · exact h.1 z hz
theorem sortI_sorted : ∀ l, (sortI l).Pairwise (· ≤ ·)
  | [] => List.Pairwise.nil
  | x :: xs => insI_sorted (sortI_sorted xs)
theorem sorted_eq {l m : List Int} (h : l.Pairwise (· ≤ ·)) (hp : l.Perm m) : l = sortI m :=
  List.Perm.eq_of_pairwise (fun a b _ _ h1 h2 => Int.le_antisymm h1 h2) h (sortI_sorted m) (hp.trans (sortI_perm m).symm)
theorem sortI_len (l : List Int) : (sortI l).length = l.length := (sortI_perm l).length_eq
/-- A list of numbers, of which those from a on, up to b, are brought into their order. -/
def ints (l : List D) : List Int := l.map D.int
def nums (l : List Int) : List D := l.map D.I
def segS (a b : Nat) (l : List D) : List D := l.take a ++ nums (sortI (ints ((l.drop a).take (b - a)))) ++ l.drop b
def sortD (l : List D) : List D := nums (sortI (ints l))
theorem ints_nums (l : List Int) : ints (nums l) = l := by
  rw [ints, nums, List.map_map]
  conv => rhs; rw [← List.map_id l]
  rfl
theorem ints_get (l : List D) (k : Nat) : (ints l)[k]? = (l[k]?).map D.int := by simp [ints]
theorem getD_int (l : List D) (k : Nat) (h : k < l.length) : (l.getD k .Z).int = (ints l)[k]'(by simpa [ints] using h) := by
  simp [List.getD_eq_getElem?_getD, ints, List.getElem?_eq_getElem h]
theorem ints_len (l : List D) : (ints l).length = l.length := by simp [ints]
theorem segS_len {a b : Nat} {l : List D} (h1 : a ≤ b) (h2 : b ≤ l.length) : (segS a b l).length = l.length := by
  simp only [segS, nums, List.length_append, List.length_map, sortI_len, ints_len, List.length_take, List.length_drop]
  omega
theorem ints_append (a b : List D) : ints (a ++ b) = ints a ++ ints b := by simp [ints]
/-- What is sorted between a and b, a permutation, and the same elsewhere. -/
theorem segS_of {a b : Nat} {l x : List D} (h1 : a ≤ b) (h2 : b ≤ x.length) (hl : l.length = x.length) (hp : (ints l).Perm (ints x)) (ho : ∀ k, k < a ∨ b ≤ k → (l.getD k .Z).int = (x.getD k .Z).int)
    (hs : ∀ i j, a ≤ i → i < j → j < b → (l.getD i .Z).int ≤ (l.getD j .Z).int) : ints l = ints (segS a b x) := by
  have split : ∀ y : List D, b ≤ y.length → ints y = ints (y.take a) ++ (ints ((y.drop a).take (b - a)) ++ ints (y.drop b)) := by
    intro y hy
    rw [← ints_append, ← ints_append]
    congr 1
    have e1 : y.drop b = (y.drop a).drop (b - a) := by rw [List.drop_drop]; congr 1; omega
    rw [e1, List.take_append_drop, List.take_append_drop]
  have same : ∀ k, k < a ∨ b ≤ k → k < l.length → (ints l)[k]? = (ints x)[k]? := by
    intro k hk hlt
    have := ho k hk
    rw [ints_get, ints_get, List.getElem?_eq_getElem hlt, List.getElem?_eq_getElem (by omega)]
    rw [List.getD_eq_getElem?_getD, List.getD_eq_getElem?_getD, List.getElem?_eq_getElem hlt, List.getElem?_eq_getElem (by omega)] at this
    simp only [Option.getD_some] at this
    simp [this]
  have e1 : ints (l.take a) = ints (x.take a) := by
    apply List.ext_getElem?
    intro k
    have : ∀ y : List D, (ints (y.take a))[k]? = if k < a then (ints y)[k]? else none := by
      intro y; rw [ints_get, ints_get, List.getElem?_take]; split <;> rfl
    rw [this, this]
    split
    · by_cases hlt : k < l.length
      · exact same k (.inl ‹_›) hlt
      · rw [List.getElem?_eq_none (by rw [ints_len]; omega), List.getElem?_eq_none (by rw [ints_len]; omega)]
    · rfl
  have e2 : ints (l.drop b) = ints (x.drop b) := by
    apply List.ext_getElem?
    intro k
    have : ∀ y : List D, (ints (y.drop b))[k]? = (ints y)[b + k]? := by
      intro y; rw [ints_get, ints_get, List.getElem?_drop]
    rw [this, this]
    by_cases hlt : b + k < l.length
    · exact same (b + k) (.inr (by omega)) hlt
    · rw [List.getElem?_eq_none (by rw [ints_len]; omega), List.getElem?_eq_none (by rw [ints_len]; omega)]
  have hm : (ints ((l.drop a).take (b - a))).Perm (ints ((x.drop a).take (b - a))) := by
    rw [split l (by omega), split x h2, e1, e2] at hp
    exact (List.perm_append_right_iff _).1 ((List.perm_append_left_iff _).1 hp)
  have hsort : (ints ((l.drop a).take (b - a))).Pairwise (· ≤ ·) := by
    rw [List.pairwise_iff_getElem]
    intro i j hi hj hij
    have hj' : j < b - a := by
      rw [ints_len, List.length_take] at hj; omega
    have get : ∀ k, k < b - a → (h : k < (ints ((l.drop a).take (b - a))).length) → (ints ((l.drop a).take (b - a)))[k] = (l.getD (a + k) .Z).int := by
      intro k hk h
      have h3 : (ints ((l.drop a).take (b - a)))[k]? = some (l.getD (a + k) .Z).int := by
        rw [ints_get, List.getElem?_take, if_pos hk, List.getElem?_drop, List.getD_eq_getElem?_getD, List.getElem?_eq_getElem (by omega)]
        rfl
      rw [List.getElem?_eq_getElem h] at h3
      exact Option.some.inj h3
    rw [get i (by omega) hi, get j hj' hj]
    exact hs _ _ (by omega) (by omega) (by omega)
  rw [split l (by omega), e1, e2, sorted_eq hsort hm, segS, ints_append, ints_append, ints_nums, List.append_assoc]
/-- Two places of a list change their numbers. -/
theorem swap_perm {l : List D} {i j : Nat} (hi : i < l.length) (hj : j < l.length) : (ints ((l.set i (.I (l.getD j .Z).int)).set j (.I (l.getD i .Z).int))).Perm (ints l) := by
  have e : ints ((l.set i (.I (l.getD j .Z).int)).set j (.I (l.getD i .Z).int)) = ((ints l).set i ((ints l)[j]'(by rw [ints_len]; exact hj))).set j ((ints l)[i]'(by rw [ints_len]; exact hi)) := by
    rw [← getD_int l j hj, ← getD_int l i hi]
    simp only [ints, List.map_set, D.int_I]
  rw [e]
  exact List.set_set_perm (by rw [ints_len]; exact hi) (by rw [ints_len]; exact hj)
theorem getD_set {l : List D} {i : Nat} (x : D) (h : i < l.length) (k : Nat) : (l.set i x).getD k .Z = if k = i then x else l.getD k .Z := by
  simp only [List.getD_eq_getElem?_getD]
  by_cases e : i = k
  · subst e; rw [if_pos rfl, List.getElem?_set_self h]; rfl
  · rw [if_neg (fun e' => e e'.symm), List.getElem?_set_ne e]
theorem swap_get {l : List D} {i j : Nat} (hi : i < l.length) (hj : j < l.length) (k : Nat) :
    (((l.set i (.I (l.getD j .Z).int)).set j (.I (l.getD i .Z).int)).getD k .Z).int = if k = j then (l.getD i .Z).int else if k = i then (l.getD j .Z).int else (l.getD k .Z).int := by
  rw [getD_set _ (by rw [List.length_set]; exact hj), getD_set _ hi]
  split
  · rfl
  · split <;> rfl
theorem bearsL_int {k : IntKind} {l m : List D} (h : ints l = ints m) : BearsL (.int k) l m := by
  have hl : l.length = m.length := by rw [← ints_len l, ← ints_len m, h]
  refine ⟨hl, fun j hj => Bears.int ?_⟩
  rw [getD_int l j hj, getD_int m j (by omega)]
  simp only [h]
end Go.Proofs.Ytjcfnooplhoheaa
