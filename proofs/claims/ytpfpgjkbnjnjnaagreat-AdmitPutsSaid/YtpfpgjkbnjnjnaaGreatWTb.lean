/- Accounts of stores: which are right, the reference. -/
import Derived.Test.YtpfpgjkbnjnjnaaGreatWTa
namespace Go.Proofs.YtpfpgjkbnjnjnaaGreat
open Go Go.Vm Rg
set_option linter.unusedSimpArgs false
set_option linter.unusedVariables false
set_option maxRecDepth 10000
def chG (s : D) (i : Nat) : Int := chk (rgAt s i)
def labG (s : D) (i : Nat) : Int := ((rgAt s i).nth 0).int
/-- A ring has the label of an earlier one. -/
def dupG (s : D) : Bool := (List.range (nG s)).any fun i => (List.range i).any fun k => labG s k == labG s i
def rngG (s : D) : Bool := ltB 1099511627776 (s.nth 1).int || ltB 1099511627776 (s.nth 2).int || ltB (s.nth 3).int 1 || ltB 10000 (s.nth 3).int
def lateG (s : D) (x : D) : Bool := ltB (s.nth 1).int (x.nth 1).int || ltB (s.nth 2).int (x.nth 2).int
def adjB (l : List D) (i : Nat) : Bool := ((l.getD (i + 1) .Z).nth 1).int == ((l.getD i .Z).nth 1).int || ltB ((l.getD (i + 1) .Z).nth 2).int ((l.getD i .Z).nth 2).int
def oldG (s : D) (x : D) : Bool := leB (IntKind.u64.wrap ((x.nth 2).int + (s.nth 3).int)) (s.nth 2).int
def adjL (l : List D) : Bool := (List.range (l.length - 1)).any (adjB l)
def numE (s : D) : Int := if (mrg s).any (lateG s) = true then 2 else if adjL (mrg s) = true then 9 else if (mrg s).any (oldG s) = true then 10 else 0
def stE (s : D) : Int := if 8 < nG s then 6 else if firstErrN (chG s) (nG s) ≠ 0 then firstErrN (chG s) (nG s) else if dupG s = true then 8 else if rngG s = true then 2 else numE s
theorem any_at {l : List D} {p : D → Bool} {i : Nat} (h : i < l.length) (hp : p (l.getD i .Z) = true) : l.any p = true := List.any_eq_true.2 ⟨_, getD_mem h, hp⟩
theorem any_no {l : List D} {p : D → Bool} (h : ∀ i, i < l.length → p (l.getD i .Z) = false) : l.any p = false := by
  rw [List.any_eq_false]
  intro x hx
  obtain ⟨i, hi, rfl⟩ := mem_getD hx
  rw [h i hi]; simp
theorem anyR_at {n i : Nat} {p : Nat → Bool} (h : i < n) (hp : p i = true) : (List.range n).any p = true := List.any_eq_true.2 ⟨i, by simpa using h, hp⟩
theorem anyR_no {n : Nat} {p : Nat → Bool} (h : ∀ i, i < n → p i = false) : (List.range n).any p = false := by
  rw [List.any_eq_false]
  intro i hi
  rw [h i (by simpa using hi)]; simp
theorem st_6 {s : D} (h : 8 < nG s) : stE s = 6 := by rw [stE, if_pos h]
theorem st_ring {s : D} (h8 : ¬ 8 < nG s) {i : Nat} (hi : i < nG s) (h0 : ∀ k, k < i → chG s k = 0) (h : chG s i ≠ 0) : stE s = chG s i := by
  have e := firstErrN_at (f := chG s) hi h0 h
  rw [stE, if_neg h8, e, if_pos h]
theorem st_8 {s : D} (h8 : ¬ 8 < nG s) (h0 : ∀ k, k < nG s → chG s k = 0) (h : dupG s = true) : stE s = 8 := by
  rw [stE, if_neg h8, firstErrN_zero h0, if_neg (by simp), if_pos h]
theorem st_2 {s : D} (h8 : ¬ 8 < nG s) (h0 : ∀ k, k < nG s → chG s k = 0) (hd : dupG s = false) (h : rngG s = true) : stE s = 2 := by
  rw [stE, if_neg h8, firstErrN_zero h0, if_neg (by simp), if_neg (by simp [hd]), if_pos h]
theorem st_num {s : D} (h8 : ¬ 8 < nG s) (h0 : ∀ k, k < nG s → chG s k = 0) (hd : dupG s = false) (h : rngG s = false) : stE s = numE s := by
  rw [stE, if_neg h8, firstErrN_zero h0, if_neg (by simp), if_neg (by simp [hd]), if_neg (by simp [h])]
theorem nu_2 {s : D} (h : (mrg s).any (lateG s) = true) : numE s = 2 := by rw [numE, if_pos h]
theorem nu_9 {s : D} (h : (mrg s).any (lateG s) = false) (h2 : adjL (mrg s) = true) : numE s = 9 := by rw [numE, if_neg (by simp [h]), if_pos h2]
theorem nu_10 {s : D} (h : (mrg s).any (lateG s) = false) (h2 : adjL (mrg s) = false) (h3 : (mrg s).any (oldG s) = true) : numE s = 10 := by rw [numE, if_neg (by simp [h]), if_neg (by simp [h2]), if_pos h3]
theorem nu_0 {s : D} (h : (mrg s).any (lateG s) = false) (h2 : adjL (mrg s) = false) (h3 : (mrg s).any (oldG s) = false) : numE s = 0 := by rw [numE, if_neg (by simp [h]), if_neg (by simp [h2]), if_neg (by simp [h3])]
theorem mrg_len {s : D} (h : okRgs s) : (mrg s).length ≤ 512 := by rw [mrg, srt_len]; exact flat_len h
def sChk : Sum := ⟨[storeS], fun _ => none, fun
  | [s] => .dat i64 (.I (stE s))
  | _ => .und⟩
def cRC : Ctx := ⟨tabT, refsT, [(87, Rg.sCheck), (74, sMerged)], [], keep, mpsT⟩
set_option maxHeartbeats 1000000 in
theorem checkRT_fun : FunOK cRC 100 Tryz.f56 sChk := fun s hs _ => by
  refine ⟨fun h1 => Bears.int ?_, fun h1 => ?_⟩
  · replace h1 : ltB 8 (nG s : Int) = true := h1
    simp only [ltB_true] at h1
    exact (st_6 (by omega)).symm
  replace h1 : ltB 8 (nG s : Int) = false := h1
  have h8 : ¬ 8 < nG s := by simp only [ltB_false] at h1; omega
  clear h1
  refine ⟨{ i : Nat // i ≤ nG s ∧ ∀ k, k < i → chG s k = 0 }, 1, fun i => ([(3, .dat i64 (.I i.1)), (1, .ptr 0 storeS [] storeS)], [(0, .box storeS (.dat storeS s))]), fun i => nG s - i.1,
    ⟨0, by omega, fun k h => by omega⟩, ⟨[], rfl, ⟨rfl, rfl, trivial⟩, ⟨rfl, trivial⟩⟩, ?_⟩
  intro x
  obtain ⟨i, hi, h0⟩ := x
  refine ⟨fun h1 => ?_, fun h1 => ?_⟩
  · have hk : i < nG s := ltN h1
    refine ⟨ix hk, fun h2 => Bears.int ?_, fun h2 => ?_⟩
    · replace h2 : (chG s i != 0) = true := h2
      exact (st_ring h8 hk h0 (by simpa using h2)).symm
    · replace h2 : (chG s i != 0) = false := h2
      exact ⟨⟨i + 1, hk, upto h0 (by simpa using h2)⟩, ⟨[], rfl, ⟨slot (i64_1 (n := i) (by omega)), rfl, trivial⟩, ⟨rfl, trivial⟩⟩, stepLt hk⟩
  · have he : i = nG s := geN hi h1
    have hok : okRgs s := ⟨by omega, fun k hk => h0 k (by omega)⟩
    have h0 : ∀ k, k < nG s → chG s k = 0 := hok.2
    clear h1
    refine ⟨{ i : Nat // i ≤ nG s ∧ ∀ k, k < i → ((List.range k).any fun q => labG s q == labG s k) = false }, 1, fun i => ([(5, .dat i64 (.I i.1)), (1, .ptr 0 storeS [] storeS)], [(0, .box storeS (.dat storeS s))]), fun i => nG s - i.1,
      ⟨0, by omega, fun k h => by omega⟩, ⟨[], rfl, ⟨rfl, rfl, trivial⟩, ⟨rfl, trivial⟩⟩, ?_⟩
    intro x
    obtain ⟨i, hi, hd⟩ := x
    refine ⟨fun h1 => ?_, fun h1 => ?_⟩
    · have hk : i < nG s := ltN h1
      clear h1
      refine ⟨{ k : Nat // k ≤ i ∧ ∀ q, q < k → (labG s q == labG s i) = false }, 1, fun k => ([(6, .dat i64 (.I k.1)), (5, .dat i64 (.I i)), (1, .ptr 0 storeS [] storeS)], [(0, .box storeS (.dat storeS s))]), fun k => i - k.1,
        ⟨0, by omega, fun k h => by omega⟩, ⟨[], rfl, ⟨rfl, rfl, rfl, trivial⟩, ⟨rfl, trivial⟩⟩, ?_⟩
      intro x
      obtain ⟨k, hki, hq⟩ := x
      refine ⟨fun h1 => ?_, fun h1 => ?_⟩
      · have hk1 : k < i := ltN h1
        have hk2 : k < nG s := by omega
        refine ⟨ix hk2, ix hk, by kernel_rfl, fun h2 => Bears.int ?_, fun h2 => ?_⟩
        all_goals replace h2 : (labG s k == labG s i) = _ := h2
        · exact (st_8 h8 h0 (anyR_at hk (anyR_at hk1 h2))).symm
        · exact ⟨⟨k + 1, hk1, upto hq h2⟩, ⟨[], rfl, ⟨slot (i64_1 (n := k) (by omega)), rfl, rfl, trivial⟩, ⟨rfl, trivial⟩⟩, stepLt hk1⟩
      · have hke : k = i := geN hki h1
        exact ⟨⟨i + 1, hk, upto hd (anyR_no fun q hq2 => hq q (by omega))⟩, ⟨[], rfl, ⟨slot (i64_1 (n := i) (by omega)), rfl, trivial⟩, ⟨rfl, trivial⟩⟩, stepLt hk⟩
    · have he : i = nG s := geN hi h1
      have hdup : dupG s = false := anyR_no fun k hk => hd k (by omega)
      clear h1
      refine ⟨fun h1 => Bears.int ?_, fun h1 => ⟨hok, ?_⟩⟩
      all_goals replace h1 : rngG s = _ := h1
      · exact (st_2 h8 h0 hdup h1).symm
      have hst := st_num h8 h0 hdup h1
      have hml := mrg_len hok
      refine ⟨{ i : Nat // i ≤ (mrg s).length ∧ ∀ k, k < i → lateG s ((mrg s).getD k .Z) = false }, 1, fun i => ([(8, .dat i64 (.I i.1)), (7, .dat (.slice storedS) (.L (mrg s))), (1, .ptr 0 storeS [] storeS)], [(0, .box storeS (.dat storeS s))]), fun i => (mrg s).length - i.1,
        ⟨0, by omega, fun k h => by omega⟩, ⟨[], rfl, ⟨rfl, rfl, rfl, trivial⟩, ⟨rfl, trivial⟩⟩, ?_⟩
      intro x
      obtain ⟨i, hi, hl⟩ := x
      refine ⟨fun h1 => ?_, fun h1 => ?_⟩
      · have hk : i < (mrg s).length := ltN h1
        refine ⟨ix hk, fun _ => ⟨(ix hk).1, (ix hk).2⟩, by kernel_rfl, fun h2 => Bears.int ?_, fun h2 => ?_⟩
        all_goals replace h2 : lateG s ((mrg s).getD i .Z) = _ := h2
        · show 2 = stE s
          rw [hst, nu_2 (any_at hk h2)]
        · exact ⟨⟨i + 1, hk, upto hl h2⟩, ⟨[], rfl, ⟨slot (i64_1 (n := i) (by omega)), rfl, rfl, trivial⟩, ⟨rfl, trivial⟩⟩, stepLt hk⟩
      · have he : i = (mrg s).length := geN hi h1
        have hlate := any_no fun k hk => hl k (by omega)
        clear h1
        refine ⟨{ i : Nat // 1 ≤ i ∧ (i ≤ (mrg s).length ∨ i = 1) ∧ ∀ k, k + 1 < i → adjB (mrg s) k = false }, 1, fun i => ([(9, .dat i64 (.I i.1)), (7, .dat (.slice storedS) (.L (mrg s))), (1, .ptr 0 storeS [] storeS)], [(0, .box storeS (.dat storeS s))]), fun i => (mrg s).length - i.1,
          ⟨1, by omega, by omega, fun k h => by omega⟩, ⟨[], rfl, ⟨rfl, rfl, rfl, trivial⟩, ⟨rfl, trivial⟩⟩, ?_⟩
        intro x
        obtain ⟨i, hi1, hi2, ha⟩ := x
        refine ⟨fun h1 => ?_, fun h1 => ?_⟩
        · have hk : i < (mrg s).length := ltN h1
          obtain ⟨n, rfl⟩ : ∃ n, i = n + 1 := ⟨i - 1, by omega⟩
          clear h1
          have hw : IntKind.i64.wrap (((n + 1 : Nat) : Int) - 1) = (n : Int) := by rw [wrap_i64 (by omega) (by omega)]; omega
          have b2 : 0 ≤ IntKind.i64.wrap (((n + 1 : Nat) : Int) - 1) ∧ IntKind.i64.wrap (((n + 1 : Nat) : Int) - 1) < ((mrg s).length : Int) := by rw [hw]; omega
          refine ⟨ix hk, b2, fun _ => ⟨(ix hk).1, (ix hk).2⟩, fun _ => ⟨b2.1, b2.2⟩, by kernel_rfl, fun h1 => Bears.int ?_, fun h1 => ?_⟩
          all_goals replace h1 : ((((mrg s).getD (n + 1) .Z).nth 1).int == (((mrg s).getD (IntKind.i64.wrap (((n + 1 : Nat) : Int) - 1)).toNat .Z).nth 1).int || ltB (((mrg s).getD (n + 1) .Z).nth 2).int (((mrg s).getD (IntKind.i64.wrap (((n + 1 : Nat) : Int) - 1)).toNat .Z).nth 2).int) = _ := h1
          all_goals rw [hw, Int.toNat_natCast] at h1
          · show 9 = stE s
            rw [hst, nu_9 hlate (anyR_at (i := n) (by omega) h1)]
          · refine ⟨⟨n + 1 + 1, by omega, by omega, fun k hk2 => ?_⟩, ⟨[], rfl, ⟨slot (i64_1 (n := n + 1) (by omega)), rfl, rfl, trivial⟩, ⟨rfl, trivial⟩⟩, stepLt hk⟩
            rcases Nat.lt_or_ge (k + 1) (n + 1) with h3 | h3
            · exact ha k h3
            · have hk2 : k + 1 < n + 1 + 1 := hk2
              have e : k = n := by omega
              subst e; exact h1
        · have he : ¬ i < (mrg s).length := fun h => by
            have h1 : ltB (i : Int) ((mrg s).length : Int) = false := h1
            simp only [ltB_false] at h1; omega
          have hadj : adjL (mrg s) = false := anyR_no fun k hk => ha k (by omega)
          clear h1
          refine ⟨{ i : Nat // i ≤ (mrg s).length ∧ ∀ k, k < i → oldG s ((mrg s).getD k .Z) = false }, 1, fun i => ([(10, .dat i64 (.I i.1)), (7, .dat (.slice storedS) (.L (mrg s))), (1, .ptr 0 storeS [] storeS)], [(0, .box storeS (.dat storeS s))]), fun i => (mrg s).length - i.1,
            ⟨0, by omega, fun k h => by omega⟩, ⟨[], rfl, ⟨rfl, rfl, rfl, trivial⟩, ⟨rfl, trivial⟩⟩, ?_⟩
          intro x
          obtain ⟨i, hi, ho⟩ := x
          refine ⟨fun h1 => ?_, fun h1 => Bears.int ?_⟩
          · have hk : i < (mrg s).length := ltN h1
            refine ⟨ix hk, by kernel_rfl, fun h2 => Bears.int ?_, fun h2 => ?_⟩
            all_goals replace h2 : oldG s ((mrg s).getD i .Z) = _ := h2
            · show 10 = stE s
              rw [hst, nu_10 hlate hadj (any_at hk h2)]
            · exact ⟨⟨i + 1, hk, upto ho h2⟩, ⟨[], rfl, ⟨slot (i64_1 (n := i) (by omega)), rfl, rfl, trivial⟩, ⟨rfl, trivial⟩⟩, stepLt hk⟩
          · have he : i = (mrg s).length := geN hi h1
            show 0 = stE s
            rw [hst, nu_0 hlate hadj (any_no fun k hk => ho k (by omega))]
theorem checkRT_ok : SumOK Tryz.prog 56 sChk := sumOK_of_vc (c := cRC) (ctxT (.cons Rg.checkR_ok (.cons merged_ok .nil))) mixed Tryz.func56 rfl (by decide) @checkRT_fun
end Go.Proofs.YtpfpgjkbnjnjnaaGreat
