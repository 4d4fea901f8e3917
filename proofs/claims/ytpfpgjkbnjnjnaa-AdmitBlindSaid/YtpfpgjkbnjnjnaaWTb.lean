/- Accounts of stores: which are right, the reference. -/
import Derived.Test.YtpfpgjkbnjnjnaaWTa
namespace Go.Proofs.Ytpfpgjkbnjnjnaa
open Go Go.Vm Rg
set_option linter.unusedSimpArgs false
set_option linter.unusedVariables false
set_option maxRecDepth 10000
def chG (s : D) (i : Nat) : Int := chk (rgAt s i)
def labG (s : D) (i : Nat) : Int := ((rgAt s i).nth 0).int
/-- A ring has the label of an earlier one. -/
def dupG (s : D) : Bool := (List.range (nG s)).any fun i => (List.range i).any fun k => labG s k == labG s i
def rngG (s : D) : Bool := ltB 1099511627776 (s.nth 1).int || ltB 1099511627776 (s.nth 2).int || ltB (s.nth 3).int 1 || ltB 10000 (s.nth 3).int
def lateG (s : D) (x : D) : Bool := ltB (s.nth 1).int (x.nth 1).int || ltB (s.nth 2).int (x.nth 2).int
def adjB (l : List D) (i : Nat) : Bool := ((l.getD (i + 1) .Z).nth 1).int == ((l.getD i .Z).nth 1).int || ltB ((l.getD (i + 1) .Z).nth 2).int ((l.getD i .Z).nth 2).int
def oldG (s : D) (x : D) : Bool := leB (IntKind.u64.wrap ((x.nth 2).int + (s.nth 3).int)) (s.nth 2).int
def adjL (l : List D) : Bool := (List.range (l.length - 1)).any (adjB l)
def numE (s : D) : Int := if (mrg s).any (lateG s) = true then 2 else if adjL (mrg s) = true then 9 else if (mrg s).any (oldG s) = true then 10 else 0
def stE (s : D) : Int := if 8 < nG s then 6 else if firstErrN (chG s) (nG s) ≠ 0 then firstErrN (chG s) (nG s) else if dupG s = true then 8 else if rngG s = true then 2 else numE s
theorem any_at {l : List D} {p : D → Bool} {i : Nat} (h : i < l.length) (hp : p (l.getD i .Z) = true) : l.any p = true := List.any_eq_true.2 ⟨_, getD_mem h, hp⟩
theorem any_no {l : List D} {p : D → Bool} (h : ∀ i, i < l.length → p (l.getD i .Z) = false) : l.any p = false := by
  rw [List.any_eq_false]
  intro x hx
  obtain ⟨i, hi, rfl⟩ := mem_getD hx
  rw [h i hi]; simp
theorem anyR_at {n i : Nat} {p : Nat → Bool} (h : i < n) (hp : p i = true) : (List.range n).any p = true := List.any_eq_true.2 ⟨i, by simpa using h, hp⟩
theorem anyR_no {n : Nat} {p : Nat → Bool} (h : ∀ i, i < n → p i = false) : (List.range n).any p = false := by
  rw [List.any_eq_false]
  intro i hi
  rw [h i (by simpa using hi)]; simp
theorem st_6 {s : D} (h : 8 < nG s) : stE s = 6 := by rw [stE, if_pos h]
theorem st_ring {s : D} (h8 : ¬ 8 < nG s) {i : Nat} (hi : i < nG s) (h0 : ∀ k, k < i → chG s k = 0) (h : chG s i ≠ 0) : stE s = chG s i := by
  have e := firstErrN_at (f := chG s) hi h0 h
  rw [stE, if_neg h8, e, if_pos h]
theorem st_8 {s : D} (h8 : ¬ 8 < nG s) (h0 : ∀ k, k < nG s → chG s k = 0) (h : dupG s = true) : stE s = 8 := by
  rw [stE, if_neg h8, firstErrN_zero h0, if_neg (by simp), if_pos h]
theorem st_2 {s : D} (h8 : ¬ 8 < nG s) (h0 : ∀ k, k < nG s → chG s k = 0) (hd : dupG s = false) (h : rngG s = true) : stE s = 2 := by
  rw [stE, if_neg h8, firstErrN_zero h0, if_neg (by simp), if_neg (by simp [hd]), if_pos h]
theorem st_num {s : D} (h8 : ¬ 8 < nG s) (h0 : ∀ k, k < nG s → chG s k = 0) (hd : dupG s = false) (h : rngG s = false) : stE s = numE s := by
  rw [stE, if_neg h8, firstErrN_zero h0, if_neg (by simp), if_neg (by simp [hd]), if_neg (by simp [h])]
theorem nu_2 {s : D} (h : (mrg s).any (lateG s) = true) : numE s = 2 := by rw [numE, if_pos h]
theorem nu_9 {s : D} (h : (mrg s).any (lateG s) = false) (h2 : adjL (mrg s) = true) : numE s = 9 := by rw [numE, if_neg (by simp [h]), if_pos h2]
theorem nu_10 {s : D} (h : (mrg s).any (lateG s) = false) (h2 : adjL (mrg s) = false) (h3 : (mrg s).any (oldG s) = true) : numE s = 10 := by rw [numE, if_neg (by simp [h]), if_neg (by simp [h2]), if_pos h3]
theorem nu_0 {s : D} (h : (mrg s).any (lateG s) = false) (h2 : adjL (mrg s) = false) (h3 : (mrg s).any (oldG s) = false) : numE s = 0 := by rw [numE, if_neg (by simp [h]), if_neg (by simp [h2]), if_neg (by simp [h3])]
theorem mrg_len {s : D} (h : okRgs s) : (mrg s).length ≤ 512 := by rw [mrg, srt_len]; exact flat_len h
def sChk : Sum := ⟨[storeS], fun _ => none, fun
  | [s] => .dat i64 (.I (stE s))
  | _ => .und⟩
def cRC : Ctx := ⟨tabT, refsT, [], [], keep, mpsT⟩
end Go.Proofs.Ytpfpgjkbnjnjnaa
