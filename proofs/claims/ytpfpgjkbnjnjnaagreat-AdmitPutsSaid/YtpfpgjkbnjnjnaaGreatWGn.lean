/- Accounts of rings: the reference's Evict. -/
import Derived.Test.YtpfpgjkbnjnjnaaGreatWGm
namespace Go.Proofs.YtpfpgjkbnjnjnaaGreat.Rg
open Go Go.Vm
set_option linter.unusedSimpArgs false
set_option linter.unusedVariables false
set_option maxRecDepth 10000

theorem evictR_fun : FunOK cLenR 100 Tryz.f99 sEvict := fun r _ now _ hor _ _ => by
  refine ⟨fun h1 => ⟨fun h2 => ⟨Bears.same ?_, Bears.int ?_, Bears.int ?_, trivial⟩, fun h2 => ?_⟩, fun h1 => ⟨fun h2 => ⟨Bears.same ?_, Bears.int ?_, Bears.int ?_, trivial⟩, fun h2 => ⟨?_, ?_⟩⟩⟩
  all_goals replace h1 : (chk r == 0 && (ltB 1099511627776 now.int || ltB hor.int 1 || ltB 10000 hor.int)) = _ := h1
  · simp only [Bool.and_eq_true, beq_iff_eq] at h1
    have e : evE r now.int hor.int ≠ 0 := by simp only [evE, h1.1, h1.2]; decide
    rw [if_pos e]; exact Same.rfl
  · simp only [Bool.and_eq_true, beq_iff_eq] at h1
    have e : evE r now.int hor.int ≠ 0 := by simp only [evE, h1.1, h1.2]; decide
    rw [if_pos e]; rfl
  · simp only [Bool.and_eq_true, beq_iff_eq] at h1
    show 2 = evE r now.int hor.int
    simp only [evE, h1.1, h1.2]; rfl
  · replace h2 : true = false := h2
    cases h2
  all_goals replace h2 : (chk r != 0) = _ := h2
  all_goals simp only [bne_iff_ne, ne_eq, bne_eq_false_iff_eq] at h2
  · have e : evE r now.int hor.int ≠ 0 := by simp [evE, h2]
    rw [if_pos e]; exact Same.rfl
  · have e : evE r now.int hor.int ≠ 0 := by simp [evE, h2]
    rw [if_pos e]; rfl
  · show chk r = evE r now.int hor.int
    simp [evE, h2]
  · exact chk_bad h2
  rw [h2] at h1
  replace h1 : (ltB 1099511627776 now.int || ltB hor.int 1 || ltB 10000 hor.int) = false := h1
  have hE : evE r now.int hor.int = 0 := by simp only [evE, h1, h2]; simp
  have hbad := chk_bad h2
  have hb := badR_false hbad
  obtain ⟨hc1, hc, hc2⟩ := cap_le hbad
  refine ⟨{ i : Nat // i ≤ cap r ∧ ∀ k, k < i → oldB r now.int hor.int k = true }, 2, fun i => ([(1, .dat u64 (.I now.int)), (2, .dat u64 (.I hor.int)), (3, .ptr 0 ringS [] ringS), (6, .ptr 1 ringS [] ringS), (10, .dat i64 (.I i.1)), (11, .dat (.slice storedS) (.L (lst r (cap r)))), (12, .dat i64 (.I i.1))],
    [(1, .box ringS (.dat ringS (D0 ringS))), (0, .box ringS (.dat ringS (evR r i.1)))]), fun i => cap r - i.1, ⟨0, by omega, fun k h => by omega⟩, ⟨[], rfl, ⟨rfl, rfl, rfl, rfl, rfl, rfl, rfl, trivial⟩, ⟨rfl, rfl, trivial⟩⟩, ?_⟩
  intro x
  obtain ⟨i, hi, ho⟩ := x
  obtain ⟨e0, e1, e3, e2⟩ := evR_0 r i
  have hp := placeI_lt (no := (r.nth 2).int + i) hb.1 hb.2.1 (by omega) (by omega)
  have hw : IntKind.u64.wrap (r.nth 1).int = (r.nth 1).int := wrap_u64 (by omega) (by omega)
  have hpl : placeI ((evR r i).nth 1).int ((evR r i).nth 2).int = placeI (r.nth 1).int ((r.nth 2).int + i) := by rw [e1, e2]
  have pre1 : IntKind.u64.wrap ((evR r i).nth 1).int ≠ 0 := by rw [e1]; omega
  have pre2 : 0 ≤ placeI ((evR r i).nth 1).int ((evR r i).nth 2).int ∧ placeI ((evR r i).nth 1).int ((evR r i).nth 2).int < ((64 : Nat) : Int) := by rw [hpl]; omega
  have hx : i < cap r → (lst r (cap r)).getD (i : Int).toNat .Z = evAt r i := by
    intro h
    rw [Int.toNat_natCast, List.getD_eq_getElem?_getD]
    exact lst_get r _ _ h
  refine ⟨fun hk => ?_, fun h3 => ⟨pre1, pre2, ?_⟩, fun h3 => ⟨Bears.same ?_, Bears.int ?_, Bears.int ?_, trivial⟩⟩
  · replace hk : ltB (i : Int) ((lst r (cap r)).length : Int) = true := hk
    show 0 ≤ (i : Int) ∧ (i : Int) < ((lst r (cap r)).length : Int)
    simp only [ltB_true] at hk
    omega
  all_goals replace h3 : (ltB (i : Int) ((lst r (cap r)).length : Int) && leB (IntKind.u64.wrap ((((lst r (cap r)).getD (i : Int).toNat .Z).nth 2).int + hor.int)) now.int) = _ := h3
  all_goals rw [lst_len] at h3
  · simp only [Bool.and_eq_true, ltB_true] at h3
    have hlt : i < cap r := by omega
    rw [hx hlt] at h3
    have h4 : oldB r now.int hor.int i = true := h3.2
    have hw4 : IntKind.u64.wrap (((evR r i).nth 2).int + 1) = (r.nth 2).int + i + 1 := by rw [e2, wrap_u64 (by omega) (by omega)]
    refine ⟨⟨i + 1, by omega, fun k hk => ?_⟩, ⟨[], rfl, ⟨rfl, rfl, rfl, rfl, congrArg some (succ_i64 (n := i) (by omega)), rfl, congrArg some (succ_i64 (n := i) (by omega)), trivial⟩, ⟨rfl, ?_, trivial⟩⟩, ?_⟩
    · rcases Nat.lt_or_eq_of_le (Nat.le_of_lt_succ hk) with h | rfl
      · exact ho k h
      · exact h4
    · refine congrArg (fun d => some (VO.box ringS (.dat ringS d))) ?_
      show D.puts ringS (D.puts ringS (evR r i) [.fld 4, .idx (placeI ((evR r i).nth 1).int ((evR r i).nth 2).int).toNat] (D0 storedS)) [.fld 2] (.I (IntKind.u64.wrap (((evR r i).nth 2).int + 1))) = evR r (i + 1)
      rw [hpl, hw4]; rfl
    · show cap r - (i + 1) < cap r - i
      omega
  all_goals have hcount : evN r now.int hor.int = i := (by
    refine cntUp_eq hi (fun k hk => by rw [Nat.zero_add]; exact ho k hk) ?_
    by_cases hlt : i = cap r
    · exact .inl hlt
    · right
      rw [Nat.zero_add]
      have hlt : i < cap r := by omega
      have h5 : ltB (i : Int) (cap r : Int) = true := by simp only [ltB_true]; omega
      rw [h5, Bool.true_and, hx hlt] at h3
      exact h3)
  · rw [hE, hcount]
    exact Same.rfl
  · rw [hE, hcount]; rfl
  · rw [hE]; rfl

/-! ### RingPuts -/
def cPuts : Ctx := ⟨tab, [], [(76, sNew), (80, sNew), (84, sCheck), (87, sCheck), (112, sPut), (117, sPut), (95, sEvict), (99, sEvict)], [], keep, []⟩
def sPuts : Sum := ⟨[ringS, i64, u64, u64, i64, i64, u64, u64], fun _ => none, fun _ => .dat .bool (.B true)⟩
theorem eqRing (d : D) : eqD ringS d d = true := by simp [eqD, eqDs]
theorem putR_ok : SumOK Tryz.prog 117 sPut := sumOK_of_vc cLenR_ok mixed Tryz.func117 rfl (by decide) @putR_fun
theorem evictR_ok : SumOK Tryz.prog 99 sEvict := sumOK_of_vc cLenR_ok mixed Tryz.func99 rfl (by decide) @evictR_fun
end Go.Proofs.YtpfpgjkbnjnjnaaGreat.Rg
