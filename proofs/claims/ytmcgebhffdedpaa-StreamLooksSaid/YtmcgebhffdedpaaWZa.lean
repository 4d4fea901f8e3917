/- Sorting, in plain Lean: lists of numbers as the library's arrays. -/
import Derived.Test.YtmcgebhffdedpaaWSa
import Derived.Sort.AssemblyPlain
namespace Go.Proofs.Ytmcgebhffdedpaa
open Go Go.Vm
set_option linter.unusedSimpArgs false
set_option linter.unusedVariables false
set_option maxRecDepth 10000
def arr (l : List D) : Array Int := (ints l).toArray
def unarr (A : Array Int) : List D := nums A.toList
theorem arr_size (l : List D) : (arr l).size = l.length := by simp [arr, ints_len]
theorem arr_get (l : List D) (k : Nat) : (arr l)[k]! = (l.getD k .Z).int := by
  rw [arr, List.getElem!_toArray, List.getElem!_eq_getElem?_getD, ints_get, List.getD_eq_getElem?_getD]
  cases l[k]? <;> rfl
theorem arr_set (l : List D) (i : Nat) (x : Int) : arr (l.set i (.I x)) = (arr l).setIfInBounds i x := by
  simp only [arr, ints, List.map_set, D.int_I, List.setIfInBounds_toArray]
theorem arr_swp (l : List D) (i j : Nat) : arr ((l.set i (.I (l.getD j .Z).int)).set j (.I (l.getD i .Z).int)) = Go.Sort.swp (arr l) i j := by
  rw [arr_set, arr_set, ← arr_get, ← arr_get]; rfl
theorem arr_unarr (A : Array Int) : arr (unarr A) = A := by simp [arr, unarr, ints_nums]
theorem ints_arr {l : List D} {A : Array Int} (h : arr l = A) : ints l = ints (unarr A) := by
  subst h; simp [arr, unarr, ints_nums]
theorem bearsA {k : IntKind} {l : List D} {A : Array Int} (h : arr l = A) : BearsL (.int k) l (unarr A) := bearsL_int (ints_arr h)
theorem unarr_len (A : Array Int) : (unarr A).length = A.size := by simp [unarr, nums]
theorem lt_eq (x y : Int) : ltB x y = Go.Sort.ltInt x y := by
  rw [Bool.eq_iff_iff, ltB_true, Go.Sort.ltInt, decide_eq_true_eq]
theorem lt_arr (l : List D) (i j : Nat) : ltB (l.getD i .Z).int (l.getD j .Z).int = Go.Sort.ltInt (arr l)[i]! (arr l)[j]! := by rw [lt_eq, arr_get, arr_get]
/-- A sorted permutation of a part is the sorted part. -/
theorem segS_arr {a b : Nat} {x : List D} {A : Array Int} (h1 : a ≤ b) (h2 : b ≤ x.length) (hp : Go.Sort.PermIn a b (arr x) A) (hs : Go.Sort.SortedIn Go.Sort.ltInt a b A) : A = arr (segS a b x) := by
  have hp0 := Go.Sort.permIn_mono (arr x) A a b 0 (arr x).size (Nat.zero_le _) (by rw [arr_size]; exact h2) (Nat.le_refl _) hp
  have hsz : A.size = (arr x).size := hp.1
  have hperm : A.toList.Perm (ints x) := by
    have h := hp0.2.2
    have e1 : A.extract 0 (arr x).size = A := by rw [← hsz]; exact Array.extract_size
    have e2 : (arr x).extract 0 (arr x).size = arr x := Array.extract_size
    rw [e1, e2] at h
    exact h
  have h := segS_of (a := a) (b := b) (l := unarr A) (x := x) h1 h2 (by rw [unarr_len, hsz, arr_size]) (by rw [unarr, ints_nums]; exact hperm)
    (fun k hk => by rw [← arr_get, ← arr_get, arr_unarr]; exact hp.2.1 k hk)
    (fun i j h3 h4 h5 => by
      have := hs i j h3 h4 h5
      rw [← arr_get, ← arr_get, arr_unarr]
      simp only [Go.Sort.ltInt, decide_eq_false_iff_not] at this
      omega)
  have e : arr (unarr A) = arr (segS a b x) := congrArg List.toArray h
  rw [arr_unarr] at e
  exact e
/-- What is sorted, between a and b. -/
theorem segS_perm {a b : Nat} {x : List D} (h1 : a ≤ b) (h2 : b ≤ x.length) : Go.Sort.PermIn a b (arr x) (arr (segS a b x)) ∧ Go.Sort.SortedIn Go.Sort.ltInt a b (arr (segS a b x)) := by
  have h := Go.Sort.insertionSort_holds Go.Sort.swo_ltInt (arr x) a b h1 (by rw [arr_size]; exact h2)
  have e := segS_arr h1 h2 h.1 h.2
  rw [← e]; exact h
end Go.Proofs.Ytmcgebhffdedpaa
