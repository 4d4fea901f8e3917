/- Configurations: without a class or a rule; the law ConfigLess. -/
import Derived.Test.YtjcfnooplhoheaaWCz
namespace Go.Proofs.Ytjcfnooplhoheaa
open Go Go.Vm
set_option linter.unusedSimpArgs false
set_option linter.unusedVariables false
set_option maxRecDepth 10000
def rmL (i : Nat) (l : List D) : List D := l.take i ++ l.drop (i + 1)
theorem rm_sub (i : Nat) (l : List D) : (rmL i l).Sublist l := by
  have h := (List.drop_sublist 1 (l.drop i)).append_left (l.take i)
  rw [List.take_append_drop, List.drop_drop] at h
  exact h
theorem rm_len {i : Nat} {l : List D} (h : i < l.length) : (rmL i l).length + 1 = l.length := by
  rw [rmL, List.length_append, List.length_take, List.length_drop]; omega
def lessD (c : D) (cs rs : List D) : D := .L [.L cs, c.nth 1, .L rs, c.nth 3]
theorem less_right {c : D} {cs rs : List D} (h : chE c = 0) (h1 : cs.Sublist (cls c)) (h2 : rs.Sublist (rls c)) : chE (lessD c cs rs) = 0 := by
  rw [right_iff] at h ⊢
  obtain ⟨a1, a2, a3, a4, a5, a6⟩ := h
  have ec : cls (lessD c cs rs) = cs := rfl
  have er : rls (lessD c cs rs) = rs := rfl
  have et : (lessD c cs rs).nth 1 = c.nth 1 := rfl
  have eh : (lessD c cs rs).nth 3 = c.nth 3 := rfl
  refine ⟨?_, ?_, ?_, ?_, ?_, ?_⟩
  · have b1 : nC (lessD c cs rs) ≤ nC c := h1.length_le
    have b2 : nR (lessD c cs rs) ≤ nR c := h2.length_le
    simp only [fullB, Bool.or_eq_false_iff, ltB_false] at a1 ⊢
    omega
  · intro x hx
    rw [ec] at hx
    exact a2 x (h1.mem hx)
  · rw [ec]
    exact a3.sublist (h1.map _)
  · intro k hk
    rw [tnE, et]; exact a4 k hk
  · intro x hx
    rw [er] at hx
    exact a5 x (h2.mem hx)
  · rw [horBad, eh]; exact a6
theorem sameL_len {s : Sh} {a b : List D} (h : a.length ≠ b.length) : sameL s a b = false := by
  rw [sameL, beq_eq_false_iff_ne.mpr h, Bool.false_and]
theorem less_same {c : D} {cs rs : List D} (h1 : cls c = [] → cs = []) (h2 : cls c ≠ [] → cs.length ≠ (cls c).length) (h3 : rls c = [] → rs = []) (h4 : rls c ≠ [] → rs.length ≠ (rls c).length) :
    sameC c (lessD c cs rs) = ((nC c : Int) == 0 && (nR c : Int) == 0) := by
  have ec : cls (lessD c cs rs) = cs := rfl
  have er : rls (lessD c cs rs) = rs := rfl
  have et : (lessD c cs rs).nth 1 = c.nth 1 := rfl
  have eh : (lessD c cs rs).nth 3 = c.nth 3 := rfl
  rw [sameC, ec, er, et, eh]
  by_cases hc : cls c = []
  · have n1 : nC c = 0 := by rw [nC, hc]; rfl
    by_cases hr : rls c = []
    · have n2 : nR c = 0 := by rw [nR, hr]; rfl
      rw [hc, hr, h1 hc, h3 hr, n1, n2, sameL_rfl (fun d => by simp [eqD, eqDs]), sameL_rfl (fun d => by simp [eqD, eqDs])]
      simp [eqD, eqDs]
    · have n2 : nR c ≠ 0 := fun h => hr (List.eq_nil_of_length_eq_zero h)
      rw [sameL_len (Ne.symm (h4 hr))]
      simp [n2]
  · have n1 : nC c ≠ 0 := fun h => hc (List.eq_nil_of_length_eq_zero h)
    rw [sameL_len (Ne.symm (h2 hc))]
    simp [n1]
/-! ### The rules of all tenants -/
def chosen (p : Nat → Bool) (n : Nat) : List Nat := (List.range n).filter p
theorem pick_c (p : Nat → Bool) (n : Nat) : pick p n = (chosen p n).map fun (i : Nat) => D.I (i : Int) := rfl
theorem chosen_lt {p : Nat → Bool} {n j : Nat} (h : j < (chosen p n).length) : (chosen p n)[j] < n ∧ p ((chosen p n)[j]) = true := by
  have h1 : (chosen p n)[j] ∈ (List.range n).filter p := List.getElem_mem h
  rw [List.mem_filter, List.mem_range] at h1
  exact h1
theorem chosen_asc {p : Nat → Bool} {n i j : Nat} (hj : j < (chosen p n).length) (hi : i < j) : (chosen p n)[i] < (chosen p n)[j] := by
  have h : (chosen p n).Pairwise (· < ·) := List.Pairwise.filter _ List.pairwise_lt_range
  exact List.pairwise_iff_getElem.1 h i j (by omega) hj hi
theorem pick_at {p : Nat → Bool} {n j : Nat} (h : j < (chosen p n).length) : ((pick p n).getD j .Z).int = ((chosen p n)[j] : Int) := by
  rw [pick_c, List.getD_eq_getElem?_getD, List.getElem?_map, List.getElem?_eq_getElem h]; rfl
theorem pick_n (p : Nat → Bool) (n : Nat) : (pick p n).length = (chosen p n).length := by rw [pick_c, List.length_map]
def uptoB (c : D) (t : Int) (i : Nat) : Bool := ltB ((rlsAt c i).nth 0).int t
theorem chosen_or {p q r : Nat → Bool} : ∀ {n : Nat}, (∀ i, i < n → r i = (p i || q i)) → (∀ i, i < n → (p i && q i) = false) → (chosen r n).length = (chosen p n).length + (chosen q n).length
  | 0, _, _ => rfl
  | n + 1, h1, h2 => by
    have ih := chosen_or (p := p) (q := q) (r := r) (n := n) (fun i hi => h1 i (by omega)) fun i hi => h2 i (by omega)
    have st : ∀ f : Nat → Bool, (chosen f (n + 1)).length = (chosen f n).length + if f n = true then 1 else 0 := fun f => by
      unfold chosen
      rw [List.range_succ, List.filter_append, List.length_append]
      by_cases h : f n = true <;> simp [h]
    have e1 := h1 n (by omega)
    have e2 := h2 n (by omega)
    rw [st, st, st, ih, e1]
    cases hp : p n <;> cases hq : q n <;> simp [hp, hq] at e2 ⊢ <;> omega
theorem own_step (c : D) (t : Nat) : (chosen (uptoB c ((t + 1 : Nat) : Int)) (nR c)).length = (chosen (uptoB c t) (nR c)).length + (chosen (ownB c t) (nR c)).length :=
  chosen_or (fun i _ => by
    rw [uptoB, uptoB, ownB, Bool.eq_iff_iff]
    simp only [Bool.or_eq_true, ltB_true, beq_iff_eq]; omega) fun i _ => by
    rw [uptoB, ownB, Bool.and_eq_false_iff]
    by_cases h : ((rlsAt c i).nth 0).int = (t : Int)
    · left; rw [ltB_false]; omega
    · right; simpa using h
theorem own_all {c : D} (h : chE c = 0) : (chosen (uptoB c 7) (nR c)).length = nR c ∧ (chosen (uptoB c 1) (nR c)).length = 0 := by
  have hr := (ch_ok.1 h).2.2.2.1
  have ow : ∀ i, i < nR c → 1 ≤ ((rlsAt c i).nth 0).int ∧ ((rlsAt c i).nth 0).int ≤ 6 := fun i hi => by
    have h1 := hr i hi
    rw [ruE, ruF] at h1
    split at h1
    · cases h1
    · rename_i h2
      simp only [badOwner, Bool.or_eq_true, ltB_true, not_or] at h2
      omega
  constructor
  · rw [chosen, List.filter_eq_self.2 fun i hi => by
      have := ow i (List.mem_range.1 hi)
      rw [uptoB, ltB_true]; omega, List.length_range]
  · rw [chosen, List.filter_eq_nil_iff.2 fun i hi => by
      have := ow i (List.mem_range.1 hi)
      rw [uptoB, ltB_true]; omega]; rfl
def cut (a : Int) (L : List D) : List D := List.take a.toNat ([] ++ L) ++ List.take (((([] ++ L).length : Nat) : Int).toNat - (IntKind.i64.wrap (a + 1)).toNat) (List.drop (IntKind.i64.wrap (a + 1)).toNat ([] ++ L))
theorem cut_rm {a : Int} {L : List D} (h0 : 0 ≤ a) (h1 : a < (L.length : Int)) (h2 : L.length ≤ 1000) : cut a L = rmL a.toNat L := by
  have e : (IntKind.i64.wrap (a + 1)).toNat = a.toNat + 1 := by rw [wrap_i64 (by omega) (by omega)]; omega
  rw [cut, e, rmL, List.nil_append, Int.toNat_natCast]
  congr 1
  exact List.take_of_length_le (by rw [List.length_drop]; omega)
def Cut (L cs : List D) : Prop := (L = [] ∧ cs = []) ∨ ∃ m, m < L.length ∧ cs = rmL m L
theorem Cut.sub {L cs : List D} : Cut L cs → cs.Sublist L
  | .inl ⟨h1, h2⟩ => by rw [h1, h2]; exact List.Sublist.refl _
  | .inr ⟨m, _, h⟩ => by rw [h]; exact rm_sub m L
theorem Cut.nil {L cs : List D} (h : Cut L cs) (e : L = []) : cs = [] := by
  rcases h with ⟨_, h⟩ | ⟨m, h, _⟩
  · exact h
  · rw [e] at h; cases h
theorem Cut.len {L cs : List D} (h : Cut L cs) (e : L ≠ []) : cs.length ≠ L.length := by
  rcases h with ⟨h, _⟩ | ⟨m, h, rfl⟩
  · exact absurd h e
  · have := rm_len h; omega
theorem lawL {c : D} {cs rs : List D} {t : Nat} (hr : chE c = 0) (h1 : Cut (cls c) cs) (h2 : Cut (rls c) rs) (ht : t = 7) :
    (true && ((chosen (uptoB c t) (nR c)).length : Int) == (nR c : Int) && (chE (lessD c cs rs) == 0 && chA (lessD c cs rs) == 0) && sameC c (lessD c cs rs) == ((nC c : Int) == 0 && (nR c : Int) == 0)) = true := by
  subst ht
  have hl := less_right hr h1.sub h2.sub
  have e7 : (chosen (uptoB c ((7 : Nat) : Int)) (nR c)).length = nR c := (own_all hr).1
  rw [e7, hl, chA_0 hl, less_same h1.nil h1.len h2.nil h2.len]
  simp
theorem cut_Cut {L : List D} (i : Int) (h : ltB 0 ((([] : List D) ++ L).length : Int) = true) (h2 : L.length ≤ 1000) : Cut L (cut (modI i ((([] : List D) ++ L).length : Int)) L) := by
  rw [List.nil_append] at h ⊢
  rw [ltB_true] at h
  obtain ⟨a, b⟩ := modI_range (a := i) (n := (L.length : Int)) (by omega) (by omega)
  exact .inr ⟨_, by omega, cut_rm a b h2⟩
theorem cut_no {L : List D} (h : ltB 0 ((([] : List D) ++ L).length : Int) = false) : Cut L ([] ++ L) := by
  rw [List.nil_append] at h ⊢
  rw [ltB_false] at h
  have : L = [] := List.eq_nil_of_length_eq_zero (by omega)
  exact .inl ⟨this, this⟩
theorem cut_pre {L : List D} (i : Int) (h : ltB 0 ((([] : List D) ++ L).length : Int) = true) (h2 : L.length ≤ 1000) :
    (0 ≤ (0 : Int) ∧ 0 ≤ modI i ((([] : List D) ++ L).length : Int) ∧ modI i ((([] : List D) ++ L).length : Int) ≤ ((([] : List D) ++ L).length : Int)) ∧
    (0 ≤ IntKind.i64.wrap (modI i ((([] : List D) ++ L).length : Int) + 1) ∧ IntKind.i64.wrap (modI i ((([] : List D) ++ L).length : Int) + 1) ≤ ((([] : List D) ++ L).length : Int) ∧ ((([] : List D) ++ L).length : Int) ≤ ((([] : List D) ++ L).length : Int)) ∧
    ((modI i ((([] : List D) ++ L).length : Int)).toNat ≤ (([] : List D) ++ L).length ∧ (IntKind.i64.wrap (modI i ((([] : List D) ++ L).length : Int) + 1)).toNat ≤ (((([] : List D) ++ L).length : Nat) : Int).toNat ∧ (((([] : List D) ++ L).length : Nat) : Int).toNat ≤ (([] : List D) ++ L).length ∧ (([] : List D) ++ L).length ≤ 536870912) := by
  rw [List.nil_append] at h ⊢
  rw [ltB_true] at h
  obtain ⟨a, b⟩ := modI_range (a := i) (n := (L.length : Int)) (by omega) (by omega)
  rw [wrap_i64 (by omega) (by omega)]
  omega
noncomputable def fnsLe : List (Nat × Func) := [(25, Try.f25)]
def sumsLe : List (Nat × Sum) := [(10, sTrue), (66, sCfg), (65, sFails), (18, sRules), (49, sMod), (21, sSameC)]
noncomputable def cLess : Ctx := ⟨tab, refs, sumsLe, fnsLe, keep, (22 + 2000000, .flag true) :: (26 + 2000000, .flag true) :: mps⟩
def sLess2 : Sum := ⟨[i64, i64, i64], fun _ => none, fun _ => .dat .bool (.B true)⟩
set_option maxHeartbeats 4000000 in
theorem cless_fun : FunOK cLess 400 Try.f13 sLess2 := fun n hn i hi k hk _ => by
  obtain ⟨c, hc⟩ : ∃ c, c = cfgD (cfgK n.int) := ⟨_, rfl⟩
  have hr : chE c = 0 := hc ▸ cfg_right (cfgK_range _).1 (cfgK_range _).2
  refine ⟨fun h1 => ?_, fun h1 => ?_⟩
  · replace h1 : (!(chE (cfgD (cfgK n.int)) == 0 && chA (cfgD (cfgK n.int)) == 0)) = true := h1
    rw [← hc, hr, chA_0 hr] at h1
    cases h1
  clear h1
  refine ⟨{ t : Nat // 1 ≤ t ∧ t ≤ 7 }, 1, fun t => ([(10, .dat i64 (.I t.1)), (9, .dat i64 (.I (chosen (uptoB c t.1) (nR c)).length)), (8, .ptr 0 configS [] configS), (7, .dat .bool (.B true)), (1, .dat i64 (.I i.int)), (2, .dat i64 (.I k.int))], [(0, .box configS (.dat configS c))]), fun t => 7 - t.1,
    ⟨1, by decide, by decide⟩, ⟨[], rfl, ⟨rfl, slot (by show (0 : Int) = ((chosen (uptoB c 1) (nR c)).length : Int); rw [(own_all hr).2]; rfl), rfl, rfl, rfl, rfl, trivial⟩, ⟨bx hc.symm, trivial⟩⟩, ?_⟩
  intro t
  obtain ⟨t, ht1, ht7⟩ := t
  have full := (ch_ok.1 hr).1
  simp only [fullB, Bool.or_eq_false_iff, ltB_false] at full
  have hC : (cls c).length ≤ 1000 := by have h : nC c = (cls c).length := rfl; omega
  have hR : (rls c).length ≤ 1000 := by have h : nR c = (rls c).length := rfl; omega
  refine ⟨fun h1 => ⟨fun h2 => ?_, fun h2 => ?_⟩, fun h1 => ⟨?_, ?_, fun h2 => ⟨(cut_pre i.int h2 hC).1, (cut_pre i.int h2 hC).2.1, (cut_pre i.int h2 hC).2.2, by kernel_rfl, fun h3 => ⟨(cut_pre k.int h3 hR).1, (cut_pre k.int h3 hR).2.1, (cut_pre k.int h3 hR).2.2, by kernel_rfl, by kernel_rfl, Bears.bool ?_⟩, fun h3 => ⟨by kernel_rfl, Bears.bool ?_⟩⟩, fun h2 => ⟨fun h3 => ⟨(cut_pre k.int h3 hR).1, (cut_pre k.int h3 hR).2.1, (cut_pre k.int h3 hR).2.2, by kernel_rfl, by kernel_rfl, Bears.bool ?_⟩, fun h3 => ⟨by kernel_rfl, Bears.bool ?_⟩⟩⟩⟩
  · replace h1 : leB (t : Int) 6 = true := h1
    replace h2 : (tnErr c (t : Int) != 0) = true := h2
    rw [leB_true] at h1
    have h3 : out (t : Int) 1 6 = false := by simp only [out, Bool.or_eq_false_iff, ltB_false]; omega
    rw [tnErr, if_neg (by simp [hr]), h3] at h2
    cases h2
  · replace h1 : leB (t : Int) 6 = true := h1
    replace h2 : (tnErr c (t : Int) != 0) = false := h2
    rw [leB_true] at h1
    have h3 : tnErr c (t : Int) = 0 := by simpa using h2
    clear h2
    refine ⟨{ j : Nat // j ≤ (chosen (ownB c t) (nR c)).length }, 1, fun j => ([(13, .dat i64 (.I j.1)), (11, .dat (.slice i64) (.L (pick (ownB c t) (nR c)))), (10, .dat i64 (.I t)), (9, .dat i64 (.I (((chosen (uptoB c t) (nR c)).length + j.1 : Nat)))), (8, .ptr 0 configS [] configS), (7, .dat .bool (.B true)), (1, .dat i64 (.I i.int)), (2, .dat i64 (.I k.int))], [(0, .box configS (.dat configS c))]), fun j => (chosen (ownB c t) (nR c)).length - j.1,
      ⟨0, Nat.zero_le _⟩, ⟨[], rfl, ⟨rfl, slotD (congrArg D.L (if_neg (by simp [h3]))), rfl, rfl, rfl, rfl, rfl, rfl, trivial⟩, ⟨rfl, trivial⟩⟩, ?_⟩
    intro j
    obtain ⟨j, hj⟩ := j
    have hnC : (chosen (uptoB c t) (nR c)).length ≤ nR c := by
      have := List.length_filter_le (uptoB c t) (List.range (nR c))
      rw [List.length_range] at this; exact this
    have hnO : (chosen (ownB c t) (nR c)).length ≤ nR c := by
      have := List.length_filter_le (ownB c t) (List.range (nR c))
      rw [List.length_range] at this; exact this
    have lt : ltB (j : Int) ((pick (ownB c t) (nR c)).length : Int) = true → j < (chosen (ownB c t) (nR c)).length := fun h => by rw [← pick_n]; exact ltN h
    have wj : 0 < j → IntKind.i64.wrap ((j : Int) - 1) = ((j - 1 : Nat) : Int) := fun h => by rw [wrap_i64 (by omega) (by omega)]; omega
    refine ⟨fun h1 => ⟨ix (ltN h1), fun _ => ix (ltN h1), fun _ => ix (ltN h1), fun _ => ?_, fun _ => ix (ltN h1), fun h2 => ?_, by kernel_rfl, fun h2 => ?_, fun h2 => ?_⟩, fun h1 => ?_⟩
    · have hlt := lt h1
      have e1 := pick_at hlt
      have g1 := (chosen_lt hlt).1
      show 0 ≤ ((pick (ownB c t) (nR c)).getD j .Z).int ∧ ((pick (ownB c t) (nR c)).getD j .Z).int < (nR c : Int)
      rw [e1]; omega
    · have h0 : 0 < j := ltN (i := 0) h2.1
      have hlt := lt h1
      show 0 ≤ IntKind.i64.wrap ((j : Int) - 1) ∧ IntKind.i64.wrap ((j : Int) - 1) < ((pick (ownB c t) (nR c)).length : Int)
      rw [wj h0, pick_n]; omega
    · have hlt := lt h1
      have e1 := pick_at hlt
      obtain ⟨g1, g2⟩ := chosen_lt hlt
      replace h2 : (ltB ((pick (ownB c t) (nR c)).getD j .Z).int 0 || leB (nR c : Int) ((pick (ownB c t) (nR c)).getD j .Z).int || ((rlsAt c ((pick (ownB c t) (nR c)).getD j .Z).int.toNat).nth 0).int != (t : Int) || ltB ((0 : Nat) : Int) (j : Int) && leB ((pick (ownB c t) (nR c)).getD j .Z).int ((pick (ownB c t) (nR c)).getD (IntKind.i64.wrap ((j : Int) - 1)).toNat .Z).int) = true := h2
      rw [e1, Int.toNat_natCast] at h2
      have g3 : ((rlsAt c (chosen (ownB c t) (nR c))[j]).nth 0).int = (t : Int) := by simpa [ownB] using g2
      rw [g3] at h2
      simp only [bne_self_eq_false, Bool.or_false, Bool.or_eq_true, Bool.and_eq_true, ltB_true, leB_true] at h2
      rcases h2 with (h2 | h2) | ⟨h2, h3⟩
      · omega
      · omega
      · have h0 : 0 < j := by omega
        have h4 := chosen_asc hlt (i := j - 1) (by omega)
        rw [wj h0, Int.toNat_natCast, pick_at (by omega)] at h3
        omega
    · have hlt := lt h1
      have hle : nR c ≤ 8 := by omega
      refine ⟨⟨j + 1, hlt⟩, ⟨[], rfl, ⟨slot (i64_1 (n := j) (by omega)), rfl, rfl, slot ?_, rfl, rfl, rfl, rfl, trivial⟩, ⟨rfl, trivial⟩⟩, by show (chosen (ownB c t) (nR c)).length - (j + 1) < (chosen (ownB c t) (nR c)).length - j; omega⟩
      exact i64_1 (n := (chosen (uptoB c t) (nR c)).length + j) (by omega)
    · have e : j = (chosen (ownB c t) (nR c)).length := by
        have h := geN (i := j) (n := (pick (ownB c t) (nR c)).length) (by rw [pick_n]; exact hj) h1
        rw [h, pick_n]
      have ht : t < 7 := by omega
      refine ⟨⟨t + 1, by omega, by omega⟩, ⟨[], rfl, ⟨slot (i64_1 (n := t) (by omega)), slot ?_, rfl, rfl, rfl, rfl, trivial⟩, ⟨rfl, trivial⟩⟩, by show 7 - (t + 1) < 7 - t; omega⟩
      show (((chosen (uptoB c t) (nR c)).length + j : Nat) : Int) = ((chosen (uptoB c ((t + 1 : Nat) : Int)) (nR c)).length : Int)
      rw [own_step, e]
  · show 0 + (cls c).length ≤ 1073741824
    omega
  · show 0 + (rls c).length ≤ 1073741824
    omega
  all_goals
    have e7 : t = 7 := by
      replace h1 : leB (t : Int) 6 = false := h1
      rw [leB_false] at h1; omega
  · exact lawL (cs := cut (modI i.int ((([] : List D) ++ cls c).length : Int)) (cls c)) (rs := cut (modI k.int ((([] : List D) ++ rls c).length : Int)) (rls c)) hr (cut_Cut i.int h2 hC) (cut_Cut k.int h3 hR) e7
  · exact lawL (cs := cut (modI i.int ((([] : List D) ++ cls c).length : Int)) (cls c)) (rs := [] ++ rls c) hr (cut_Cut i.int h2 hC) (cut_no h3) e7
  · exact lawL (cs := [] ++ cls c) (rs := cut (modI k.int ((([] : List D) ++ rls c).length : Int)) (rls c)) hr (cut_no h2) (cut_Cut k.int h3 hR) e7
  · exact lawL (cs := [] ++ cls c) (rs := [] ++ rls c) hr (cut_no h2) (cut_no h3) e7
theorem cless_ok : SumOK Try.prog 13 sLess2 := sumOK_of_vc (c := cLess) (CtxOK.of (c := ⟨tab, refs, sumsLe, fnsLe, keep, (22 + 2000000, .flag true) :: (26 + 2000000, .flag true) :: mps⟩) tabOK refsOK (.cons knownC_ok (.cons cfg_ok (.cons fails_ok (.cons rulesP_ok (.cons mod_ok (.cons same_ok .nil)))))) (.cons Try.func25 rfl (by decide) .nil) (by kernel_rfl)) mixed Try.func13 rfl (by decide) @cless_fun
end Go.Proofs.Ytjcfnooplhoheaa
