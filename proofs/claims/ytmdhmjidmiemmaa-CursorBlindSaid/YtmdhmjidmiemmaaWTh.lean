/- Accounts of stores: Below. -/
import Derived.Test.YtmdhmjidmiemmaaWTg
namespace Go.Proofs.Ytmdhmjidmiemmaa
open Go Go.Vm Rg
set_option linter.unusedSimpArgs false
set_option linter.unusedVariables false
set_option maxRecDepth 10000
def keepR (l : Int) (r : D) : Bool := Cf.belowB (r.nth 0).int l
def belR (s : D) (l : Int) : List D := (rgs s).filter (keepR l)
def belT (s : D) (l : Int) : D := if stE s ≠ 0 then D0 storeS else .L [.L (belR s l), s.nth 1, s.nth 2, s.nth 3]
def sBelT : Sum := ⟨[storeS, u64], fun _ => none, fun
  | [s, l] => .tup [.dat storeS (belT s l.int), .dat i64 (.I (stE s))]
  | _ => .und⟩
theorem belT_bad {s : D} {l : Int} (h : stE s ≠ 0) : D0 storeS = belT s l := by rw [belT, if_pos h]
theorem belT_ok {s : D} {l : Int} (h : stE s = 0) : D.L [.L (belR s l), s.nth 1, s.nth 2, s.nth 3] = belT s l := by rw [belT, ite0 h]
/-! ### What is kept -/
section
variable {F : List D} {p : D → Bool}
def kp (F : List D) (p : D → Bool) (j : Nat) : List D := (F.take j).filter p
def dl (F : List D) (p : D → Bool) (j : Nat) : List D := kp F p j ++ F.drop (kp F p j).length
theorem kp_len {j : Nat} : (kp F p j).length ≤ j ∧ (kp F p j).length ≤ F.length := by
  have h := List.length_filter_le p (F.take j)
  rw [List.length_take] at h
  rw [kp]; omega
theorem kp_succ {j : Nat} (h : j < F.length) : kp F p (j + 1) = kp F p j ++ if p (F.getD j .Z) = true then [F.getD j .Z] else [] := by
  rw [kp, kp, List.take_add_one, List.filter_append, List.getElem?_eq_getElem h]
  have e : F.getD j .Z = F[j] := by rw [List.getD_eq_getElem?_getD, List.getElem?_eq_getElem h]; rfl
  rw [e]
  simp only [Option.toList, List.filter_cons, List.filter_nil]
theorem dl_len {j : Nat} : (dl F p j).length = F.length := by
  have := kp_len (F := F) (p := p) (j := j)
  rw [dl, List.length_append, List.length_drop]; omega
theorem dl_at {j : Nat} (h : j < F.length) : (dl F p j).getD j .Z = F.getD j .Z := by
  have := kp_len (F := F) (p := p) (j := j)
  rw [dl, List.getD_eq_getElem?_getD, List.getElem?_append_right this.1, List.getElem?_drop, Nat.add_sub_cancel' this.1, List.getD_eq_getElem?_getD]
theorem dl_keep {j : Nat} (h : j < F.length) (hp : p (F.getD j .Z) = true) : (dl F p j).set (kp F p j).length (F.getD j .Z) = dl F p (j + 1) ∧ (kp F p (j + 1)).length = (kp F p j).length + 1 := by
  have hl := kp_len (F := F) (p := p) (j := j)
  have e := kp_succ (p := p) h
  rw [if_pos hp] at e
  have e2 : (kp F p (j + 1)).length = (kp F p j).length + 1 := by rw [e]; simp
  refine ⟨?_, e2⟩
  rw [dl, dl, e2, e, List.set_append_right _ _ (Nat.le_refl _), Nat.sub_self, List.drop_eq_getElem_cons (show (kp F p j).length < F.length by omega), List.set_cons_zero]
  simp
theorem dl_skip {j : Nat} (h : j < F.length) (hp : p (F.getD j .Z) = false) : dl F p j = dl F p (j + 1) ∧ (kp F p (j + 1)).length = (kp F p j).length := by
  have e := kp_succ (p := p) h
  rw [if_neg (by rw [hp]; decide), List.append_nil] at e
  rw [dl, dl, e]; exact ⟨rfl, rfl⟩
theorem kp_all {i : Nat} (hi : i ≤ F.length) (h : ∀ k, k < i → p (F.getD k .Z) = true) : kp F p i = F.take i := by
  rw [kp, List.filter_eq_self]
  intro x hx
  obtain ⟨k, hk, rfl⟩ := mem_getD hx
  rw [List.length_take] at hk
  rw [List.getD_eq_getElem?_getD, List.getElem?_take_of_lt (by omega), ← List.getD_eq_getElem?_getD]
  exact h k (by omega)
theorem clr_take {s : Sh} {a b : Nat} {xs : List D} (h : a ≤ xs.length) : (clrL s a b xs).take a = xs.take a ∧ a ≤ (clrL s a b xs).length := by
  have h1 : (xs.take a).length = a := by rw [List.length_take]; omega
  refine ⟨?_, ?_⟩
  · rw [clrL, List.append_assoc, List.take_append_of_le_length (by omega), List.take_take, Nat.min_self]
  · rw [clrL, List.length_append, List.length_append, h1]; omega
theorem dl_take {j : Nat} : (dl F p j).take (kp F p j).length = kp F p j := by
  rw [dl, List.take_append_of_le_length (Nat.le_refl _), List.take_length]
theorem dl_start {i : Nat} (hi : i < F.length) (h : ∀ k, k < i → p (F.getD k .Z) = true) (hp : p (F.getD i .Z) = false) : F = dl F p (i + 1) ∧ (kp F p (i + 1)).length = i := by
  have h1 := kp_all (by omega) h
  have h2 := dl_skip hi hp
  have h3 : (kp F p i).length = i := by rw [h1, List.length_take]; omega
  refine ⟨?_, by rw [h2.2, h3]⟩
  rw [← h2.1, dl, h3, h1, List.take_append_drop]
end
def cBwR : Ctx := ⟨tabT, refsT, [(48, sChk)], [], keep, mpsT⟩
theorem belR_fun : FunOK cBwR 200 Try.f31 sBelT := fun s hs l hl h => by
  refine ⟨fun h1 => ⟨Bears.of_eq (belT_bad (neB h1)), Bears.int rfl, trivial⟩, fun h1 => ?_⟩
  replace h1 : stE s = 0 := eqB h1
  have h8 := (st_ok h1).1.1
  have hn : nG s = (rgs s).length := rfl
  refine ⟨{ i : Nat // i ≤ nG s }, 3, fun i => ([(8, .dat i64 (.I i.1)), (7, .dat (.slice ringS) (s.nth 0)), (4, .ptr 1 storeS [] storeS), (2, .ptr 0 storeS [] storeS), (1, .dat u64 (.I l.int))],
    [(0, .box storeS (.st [.slice ringS, u64, u64, u64] [.own 2 ringS, .dat u64 (s.nth 1), .dat u64 (s.nth 2), .dat u64 (s.nth 3)])), (2, .grow ringS (((rgs s).take i.1).filter (keepR l.int))), (1, .box storeS (.st [.slice ringS, u64, u64, u64] [.cst (Value.slice none 0 0), .dat u64 (D0 u64), .dat u64 (D0 u64), .dat u64 (D0 u64)]))]), fun i => nG s - i.1,
    ⟨0, by omega⟩, ⟨[(2, 1000000)], rfl, ⟨rfl, rfl, rfl, rfl, rfl, trivial⟩, ⟨rfl, rfl, rfl, trivial⟩⟩, ?_⟩
  intro x
  obtain ⟨i, hi⟩ := x
  refine ⟨fun h3 => ?_, fun h3 => ?_⟩
  · have hk : i < nG s := ltN h3
    clear h3
    have e := kp_succ (p := keepR l.int) (show i < (rgs s).length from hk)
    refine ⟨ix hk, fun h4 => ⟨ix hk, ?_, by kernel_rfl, ⟨i + 1, hk⟩, ⟨[(2, 17)], rfl, ⟨slot (i64_1 (n := i) (by omega)), rfl, rfl, rfl, rfl, trivial⟩, ⟨rfl, gro ?_, rfl, trivial⟩⟩, stepLt hk⟩, fun h4 => ⟨⟨i + 1, hk⟩, ⟨[], rfl, ⟨slot (i64_1 (n := i) (by omega)), rfl, rfl, rfl, rfl, trivial⟩, ⟨rfl, gro ?_, rfl, trivial⟩⟩, stepLt hk⟩⟩
    all_goals try replace h4 : keepR l.int (rgAt s i) = _ := h4
    · have := kp_len (F := rgs s) (p := keepR l.int) (j := i)
      show (kp (rgs s) (keepR l.int) i).length + 1 ≤ 1073741824
      omega
    · show kp (rgs s) (keepR l.int) i ++ [rgAt s i] = kp (rgs s) (keepR l.int) (i + 1)
      rw [e]; exact (congrArg _ (if_pos h4)).symm
    · show kp (rgs s) (keepR l.int) i = kp (rgs s) (keepR l.int) (i + 1)
      rw [e]
      have : (if keepR l.int (rgAt s i) = true then [rgAt s i] else []) = [] := if_neg (by simp [h4])
      exact ((congrArg (kp (rgs s) (keepR l.int) i ++ ·) this).trans (List.append_nil _)).symm
  · have he : i = nG s := geN hi h3
    subst he
    refine ⟨Bears.of_eq ?_, Bears.int h1.symm, trivial⟩
    rw [← belT_ok h1, belR]
    show D.L [D.L (((rgs s).take (nG s)).filter (keepR l.int)), s.nth 1, s.nth 2, s.nth 3] = _
    rw [List.take_of_length_le (by omega)]
theorem belR_ok : SumOK Try.prog 31 sBelT := sumOK_of_vc (c := cBwR) (ctxT (.cons checkRT_ok .nil)) mixed Try.func31 rfl (by decide) @belR_fun
theorem mpsBOK : mapsB Try.prog ((26 + 2000000, .flag false) :: mpsT) = true := by kernel_rfl
end Go.Proofs.Ytmdhmjidmiemmaa
