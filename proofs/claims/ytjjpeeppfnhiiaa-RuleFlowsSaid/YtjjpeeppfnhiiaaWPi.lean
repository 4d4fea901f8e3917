/- RuleFlows: labels to which one can come, in plain Lean and in the account. -/
import Derived.Test.YtjjpeeppfnhiiaaWPg
namespace Go.Proofs.Ytjjpeeppfnhiiaa
open Go Go.Vm
set_option linter.unusedSimpArgs false
set_option linter.unusedVariables false
set_option maxRecDepth 10000
theorem eqmp {P Q : Prop} (h : P = Q) (p : P) : Q := h ▸ p
theorem rch_from {l : List D} {x y : Int} (h : Rch l x y) : y = x ∨ ∃ z r, Rch l x z ∧ z ≠ y ∧ r ∈ l ∧ belowB z (rA r) = true ∧ rR r = y := by
  induction h with
  | here => exact .inl rfl
  | @step z r hz hr hb ih =>
    by_cases e : z = rR r
    · rw [← e]; exact ih
    · exact .inr ⟨z, r, hz, e, hr, hb, rfl⟩
theorem rch_mono {l m : List D} {x y : Int} (hs : ∀ r, r ∈ l → r ∈ m) (h : Rch l x y) : Rch m x y := by
  induction h with
  | here => exact .here
  | step _ hr hb ih => exact .step ih (hs _ hr) hb
theorem flow_closed {l : List D} {x y : Int} {r : D} (h : y ∈ flowI l x) (hr : r ∈ l) (hb : belowB y (rA r) = true) : rR r ∈ flowI l x := flow_mem.2 (.step (flow_mem.1 h) hr hb)
theorem flow_nil (x : Int) : flowI [] x = [x] := rfl
theorem nodup_len {l m : List Int} : l.Nodup → (∀ y, y ∈ l → y ∈ m) → l.length ≤ m.length := by
  induction l generalizing m with
  | nil => intro _ _; simp
  | cons a l ih =>
    intro hn hs
    rw [List.nodup_cons] at hn
    have h1 := ih (m := m.erase a) hn.2 fun y hy => (List.mem_erase_of_ne (fun e => by subst e; exact hn.1 hy)).2 (hs y (List.mem_cons_of_mem _ hy))
    have h2 := List.length_erase_of_mem (hs a (List.mem_cons_self ..))
    have h3 : 0 < m.length := List.length_pos_of_mem (hs a (List.mem_cons_self ..))
    rw [List.length_cons]; omega
theorem flow_lt {l : List D} {x : Int} {i j : Nat} (hij : i < j) (hj : j < (flowI l x).length) : (flowI l x).getD i 0 < (flowI l x).getD j 0 := by
  have hs : (flowI l x).Pairwise (· ≤ ·) := sortI_sorted _
  have h1 := List.pairwise_iff_getElem.1 hs i j (by omega) hj hij
  have h2 : (flowI l x)[i]'(by omega) ≠ (flowI l x)[j] := fun e => by
    have := (List.nodup_iff_pairwise_ne.1 (flow_nd l x))
    exact List.pairwise_iff_getElem.1 this i j (by omega) hj hij e
  rw [List.getD_eq_getElem?_getD, List.getD_eq_getElem?_getD, List.getElem?_eq_getElem (by omega), List.getElem?_eq_getElem hj, Option.getD_some, Option.getD_some]
  omega
/-- Within the first i labels one is at most top. -/
def dnB (A : List Int) (top : Int) (i : Nat) : Bool := (A.take i).any fun y => belowB y top
theorem dnB_succ {A : List Int} {top : Int} {i : Nat} (h : i < A.length) : dnB A top (i + 1) = (dnB A top i || belowB (A.getD i 0) top) := by
  rw [dnB, List.take_add_one, List.any_append, List.getElem?_eq_getElem h, List.getD_eq_getElem?_getD, List.getElem?_eq_getElem h]
  simp [dnB]
def sFl : Sum := ⟨[i64, i64, u64, u64], fun _ => none, fun _ => .dat .bool (.B true)⟩
def cFlw : Ctx := ⟨tabK, [], [(17, sRls), (19, sMod), (23, sFlows), (26, sDown), (24, sSameI u64), (25, sHasU), (16, sTrue)], [], keep, []⟩
set_option maxHeartbeats 1000000 in
theorem flw_fun : FunOK cFlw 100 Try.f5 sFl := fun n hn ct hct x hx top htop _ => by
  obtain ⟨L, hL⟩ : ∃ L, L = rlsK n.int := ⟨_, rfl⟩
  obtain ⟨m, hm⟩ : ∃ m, m = modI ct.int (IntKind.i64.wrap ((L.length : Int) + 1)) := ⟨_, rfl⟩
  obtain ⟨C, hC⟩ : ∃ C, C = List.take (m - 0).toNat (List.drop 0 L) := ⟨_, rfl⟩
  have h4 : L.length ≤ 4 := hL ▸ rlsK_le _
  have hmr : 0 ≤ m ∧ m ≤ L.length := by
    have := modI_range (a := ct.int) (n := (L.length : Int) + 1) (by omega) (by omega)
    rw [hm, wrap_i64 (by omega) (by omega)]; omega
  have hck : ∀ i, i < L.length → checkF (L.getD i .Z) = 0 := hL ▸ fun i => rlsK_check _
  have hr : listF (.L L) = 0 := hL ▸ rlsK_right _
  have hCl : C = L.take m.toNat := by rw [hC, List.drop_zero, Int.sub_zero]
  have hrC : listF (.L C) = 0 := by
    have hlen : C.length ≤ L.length := by rw [hCl, List.length_take]; omega
    rw [listF, if_neg (by show ¬ 8 < C.length; omega)]
    refine firstErr_none fun i hi => ?_
    have hi : i < C.length := hi
    have := hck i (by omega)
    rw [List.getD_eq_getElem?_getD] at this
    show checkF (C.getD i .Z) = 0
    rw [List.getD_eq_getElem?_getD, hCl, List.getElem?_take, if_pos (by rw [hCl, List.length_take] at hi; omega)]; exact this
  have hr0 : listF (.L []) = 0 := rfl
  have hsub : ∀ y, y ∈ flowI C x.int → y ∈ flowI L x.int := fun y hy => flow_mem.2 (rch_mono (fun r hr => by rw [hCl] at hr; exact List.mem_of_mem_take hr) (flow_mem.1 hy))
  have eA : flowL (.L L) x.int = nums (flowI L x.int) := by rw [flowL, if_pos hr]; rfl
  have eC : flowL (.L C) x.int = nums (flowI C x.int) := by rw [flowL, if_pos hrC]; rfl
  have e0 : flowL (.L []) x.int = nums [x.int] := rfl
  have hlen : (flowI C x.int).length ≤ (flowI L x.int).length := nodup_len (flow_nd _ _) hsub
  obtain ⟨A, hA⟩ : ∃ A, A = flowI L x.int := ⟨_, rfl⟩
  obtain ⟨B, hB⟩ : ∃ B, B = flowI C x.int := ⟨_, rfl⟩
  have lA : A.length ≤ 9 := by rw [hA]; have := flow_len L x.int; omega
  refine ⟨?_, ?_, trivial, fun h1 => Bears.bool ?_, fun h1 => ?_⟩
  · show 0 ≤ (0 : Int) ∧ 0 ≤ modI ct.int (IntKind.i64.wrap (((rlsK n.int).length : Int) + 1)) ∧ modI ct.int (IntKind.i64.wrap (((rlsK n.int).length : Int) + 1)) ≤ ((rlsK n.int).length : Int)
    rw [← hL, ← hm]; omega
  · show (listF (D.L (rlsK n.int)) != 0 || listF (D.L (List.take (modI ct.int (IntKind.i64.wrap (((rlsK n.int).length : Int) + 1)) - 0).toNat (List.drop 0 (rlsK n.int)))) != 0 || listF (D.L []) != 0) = false
    rw [← hL, ← hm, ← hC, hr, hrC, hr0]; rfl
  · exfalso
    replace h1 : (listF (D.L (rlsK n.int)) != 0 || listF (D.L (List.take (modI ct.int (IntKind.i64.wrap (((rlsK n.int).length : Int) + 1)) - 0).toNat (List.drop 0 (rlsK n.int)))) != 0 || listF (D.L []) != 0 || !sameI (flowL (D.L []) x.int) [.I x.int] ||
      ltB (flowL (D.L (rlsK n.int)) x.int).length (flowL (D.L (List.take (modI ct.int (IntKind.i64.wrap (((rlsK n.int).length : Int) + 1)) - 0).toNat (List.drop 0 (rlsK n.int)))) x.int).length) = true := eqmp (by kernel_rfl) h1
    rw [← hL, ← hm, ← hC, hr, hrC, hr0, eA, eC, e0, nums_len, nums_len] at h1
    have e1 : sameI (nums [x.int]) [.I x.int] = true := sameI_rfl _
    rw [e1] at h1
    simp only [bne_self_eq_false, Bool.not_true, Bool.or_false, Bool.false_or, ltB_true] at h1
    omega
  clear h1
  refine ⟨{ i : Nat // i ≤ A.length }, 1, fun i => ([(18, .dat i64 (.I i.1)), (17, .dat .bool (.B (dnB A top.int i.1))), (13, .dat (.slice u64) (.L (nums B))), (11, .dat (.slice u64) (.L (nums A))), (9, .dat (.slice ruleS) (.L L)), (2, .dat u64 (.I x.int)), (3, .dat u64 (.I top.int))],
    []), fun i => A.length - i.1, ⟨0, by omega⟩, ⟨[], rfl, ⟨rfl, rfl, slotD ?_, slotD ?_, slotD ?_, rfl, rfl, trivial⟩, trivial⟩, ?_⟩
  · rw [hB, ← eC, hC, hm, hL] <;> rfl
  · rw [hA, ← eA, hL] <;> rfl
  · rw [hL] <;> rfl
  intro y
  obtain ⟨i, hi⟩ := y
  refine ⟨fun h1 => ?_, fun h1 => ?_⟩
  · have hi1 : i < A.length := by have : i < (nums A).length := ltN h1; rwa [nums_len] at this
    clear h1
    have gA : ∀ j, j < A.length → ((nums A).getD j .Z).int = A.getD j 0 := fun j hj => by rw [nums_get hj]; rfl
    have bA : ∀ j, j < A.length → 0 ≤ (j : Int) ∧ (j : Int) < ((nums A).length : Int) := fun j hj => by rw [nums_len]; exact ix hj
    refine ⟨fun _ => ⟨(bA i hi1).1, (bA i hi1).2⟩, bA i hi1, ?_⟩
    refine ⟨{ s : Nat × Bool // s.1 ≤ L.length ∧ ((A.getD i 0 = x.int ∨ ∃ r, r < s.1 ∧ ∃ m, m < A.length ∧ m ≠ i ∧ rR (L.getD r .Z) = A.getD i 0 ∧ belowB (A.getD m 0) (rA (L.getD r .Z)) = true) → s.2 = true) }, 1,
      fun s => ([(20, .dat i64 (.I s.1.1)), (19, .dat .bool (.B s.1.2)), (17, .dat .bool (.B (dnB A top.int (i + 1)))), (18, .dat i64 (.I i)), (13, .dat (.slice u64) (.L (nums B))), (11, .dat (.slice u64) (.L (nums A))), (9, .dat (.slice ruleS) (.L L)), (2, .dat u64 (.I x.int)), (3, .dat u64 (.I top.int))], []),
      fun s => L.length - s.1.1, ⟨(0, ((nums A).getD i .Z).int == x.int), by simp, fun h => ?_⟩, ⟨[], rfl, ⟨rfl, rfl, slotB ?_, rfl, rfl, rfl, rfl, rfl, rfl, trivial⟩, trivial⟩, ?_⟩
    · rcases h with h | ⟨r, hr, _⟩
      · rw [gA i hi1]; simpa using h
      · exact absurd hr (by simp)
    · rw [dnB_succ hi1, ← gA i hi1]; rfl
    intro y
    obtain ⟨⟨r, b⟩, hr, hb⟩ := y
    simp only at hr hb
    refine ⟨fun h1 => ?_, fun h1 => ?_⟩
    · have hr1 : r < L.length := ltN h1
      clear h1
      refine ⟨{ s : Nat × Bool // s.1 ≤ A.length ∧ ((A.getD i 0 = x.int ∨ (∃ r', r' < r ∧ ∃ m, m < A.length ∧ m ≠ i ∧ rR (L.getD r' .Z) = A.getD i 0 ∧ belowB (A.getD m 0) (rA (L.getD r' .Z)) = true) ∨ ∃ m, m < s.1 ∧ m ≠ i ∧ rR (L.getD r .Z) = A.getD i 0 ∧ belowB (A.getD m 0) (rA (L.getD r .Z)) = true) → s.2 = true) }, 1,
        fun s => ([(21, .dat i64 (.I s.1.1)), (20, .dat i64 (.I r)), (19, .dat .bool (.B s.1.2)), (17, .dat .bool (.B (dnB A top.int (i + 1)))), (18, .dat i64 (.I i)), (13, .dat (.slice u64) (.L (nums B))), (11, .dat (.slice u64) (.L (nums A))), (9, .dat (.slice ruleS) (.L L)), (2, .dat u64 (.I x.int)), (3, .dat u64 (.I top.int))], []),
        fun s => A.length - s.1.1, ⟨(0, b), by simp, fun h => ?_⟩, ⟨[], rfl, ⟨rfl, rfl, rfl, rfl, rfl, rfl, rfl, rfl, rfl, rfl, trivial⟩, trivial⟩, ?_⟩
      · rcases h with h | h | ⟨m, hm, _⟩
        · exact hb (.inl h)
        · exact hb (.inr h)
        · exact absurd hm (by simp)
      intro y
      obtain ⟨⟨m, b⟩, hm', hb⟩ := y
      simp only at hm' hb
      refine ⟨fun h1 => ?_, fun h1 => ?_⟩
      · have hm1 : m < A.length := by have : m < (nums A).length := ltN h1; rwa [nums_len] at this
        clear h1
        refine ⟨fun _ => ⟨(ix hr1).1, (ix hr1).2⟩, fun _ => ⟨(bA i hi1).1, (bA i hi1).2⟩, fun _ => ⟨(bA m hm1).1, (bA m hm1).2⟩, fun _ => ⟨(ix hr1).1, (ix hr1).2⟩, by kernel_rfl,
          ⟨(m + 1, b || ((m : Int) != (i : Int) && rR (L.getD r .Z) == ((nums A).getD i .Z).int && belowB ((nums A).getD m .Z).int (rA (L.getD r .Z)))), hm1, fun h => ?_⟩,
          ⟨[], rfl, ⟨slot (i64_1 (n := m) (by omega)), rfl, rfl, rfl, rfl, rfl, rfl, rfl, rfl, rfl, trivial⟩, trivial⟩, Nat.sub_lt_sub_left hm1 (Nat.lt_succ_self m)⟩
        show (b || _) = true
        rcases h with h | h | ⟨m', h1, h2, h3, h4⟩
        · rw [hb (.inl h)]; rfl
        · rw [hb (.inr (.inl h))]; rfl
        · have h1 : m' < m + 1 := h1
          rcases Nat.lt_or_eq_of_le (Nat.le_of_lt_succ h1) with h5 | e
          · rw [hb (.inr (.inr ⟨m', h5, h2, h3, h4⟩))]; rfl
          · subst e
            rw [gA i hi1, gA m' hm1, h3, h4]
            have : ((m' : Int) != (i : Int)) = true := by rw [bne_iff_ne]; omega
            rw [this]; simp
      · have hme : m = A.length := geN hm' (by rw [← nums_len A]; exact h1)
        clear h1
        refine ⟨bA i hi1, ix hr1, fun _ => ⟨(ix hr1).1, (ix hr1).2⟩, by kernel_rfl, fun h1 => Bears.bool ?_, fun h1 => ?_⟩
        · exfalso
          replace h1 : (belowB ((nums A).getD i .Z).int (rA (L.getD r .Z)) && !hasI (nums A) (rR (L.getD r .Z))) = true := h1
          rw [gA i hi1, hasI_nums, Bool.and_eq_true] at h1
          have hrm : L.getD r .Z ∈ L := by rw [List.getD_eq_getElem?_getD, List.getElem?_eq_getElem hr1]; exact List.getElem_mem hr1
          have hAm : A.getD i 0 ∈ flowI L x.int := by rw [← hA, List.getD_eq_getElem?_getD, List.getElem?_eq_getElem hi1]; exact List.getElem_mem hi1
          have := flow_closed hAm hrm h1.1
          rw [← hA] at this
          have h2 := h1.2
          rw [Bool.not_eq_true', List.contains_eq_mem, decide_eq_false_iff_not] at h2
          exact h2 this
        · refine ⟨⟨(r + 1, b), hr1, fun h => hb ?_⟩, ⟨[], rfl, ⟨slot (i64_1 (n := r) (by omega)), rfl, rfl, rfl, rfl, rfl, rfl, rfl, rfl, trivial⟩, trivial⟩, Nat.sub_lt_sub_left hr1 (Nat.lt_succ_self r)⟩
          rcases h with h | ⟨r', h1, m', h2, h3, h4, h5⟩
          · exact .inl h
          · have h1 : r' < r + 1 := h1
            rcases Nat.lt_or_eq_of_le (Nat.le_of_lt_succ h1) with h6 | e
            · exact .inr (.inl ⟨r', h6, m', h2, h3, h4, h5⟩)
            · subst e
              exact .inr (.inr ⟨m', by omega, h3, h4, h5⟩)
    · have hre : r = L.length := geN hr h1
      clear h1
      have hbt : b = true := by
        refine hb ?_
        have hAm : A.getD i 0 ∈ flowI L x.int := by rw [← hA, List.getD_eq_getElem?_getD, List.getElem?_eq_getElem hi1]; exact List.getElem_mem hi1
        rcases rch_from (flow_mem.1 hAm) with h | ⟨z, q, h1, h2, h3, h4, h5⟩
        · exact .inl h
        · have hz := flow_mem.2 h1
          rw [← hA] at hz
          obtain ⟨m, hm, rfl⟩ := List.getElem_of_mem hz
          obtain ⟨k, hk, rfl⟩ := List.getElem_of_mem h3
          refine .inr ⟨k, by omega, m, hm, fun e => ?_, ?_, ?_⟩
          · subst e
            rw [List.getD_eq_getElem?_getD, List.getElem?_eq_getElem hm] at h2
            exact h2 rfl
          · rw [List.getD_eq_getElem?_getD, List.getElem?_eq_getElem hk]; exact h5
          · rw [List.getD_eq_getElem?_getD, List.getElem?_eq_getElem hm, List.getD_eq_getElem?_getD, List.getElem?_eq_getElem hk]; exact h4
      have hi0 : 0 < i → IntKind.i64.wrap ((i : Int) - 1) = ((i - 1 : Nat) : Int) := fun h => by rw [wrap_i64 (by omega) (by omega)]; omega
      have ip : KeyCond [(165, true, ltB 0 (i : Int)), (162, false, !b)] → 0 < i := fun hk => by
        have h := hk.1; simp only [ltB_true] at h; omega
      refine ⟨fun h1 => ⟨?_, ?_⟩, fun _ => ⟨(bA i hi1).1, (bA i hi1).2⟩, by kernel_rfl, fun h1 => Bears.bool ?_, fun h1 => ?_⟩
      · show 0 ≤ IntKind.i64.wrap ((i : Int) - 1)
        rw [hi0 (ip h1)]; omega
      · show IntKind.i64.wrap ((i : Int) - 1) < ((nums A).length : Int)
        have := ip h1
        rw [hi0 this, nums_len]; omega
      · exfalso
        replace h1 : (!b || ltB 0 (i : Int) && leB ((nums A).getD i .Z).int ((nums A).getD (IntKind.i64.wrap ((i : Int) - 1)).toNat .Z).int) = true := h1
        rw [hbt] at h1
        simp only [Bool.not_true, Bool.false_or, Bool.and_eq_true, ltB_true] at h1
        have h0 : 0 < i := by omega
        have h2 := h1.2
        rw [hi0 h0, Int.toNat_natCast, gA i hi1, gA (i - 1) (by omega)] at h2
        have := flow_lt (l := L) (x := x.int) (i := i - 1) (j := i) (by omega) (by rw [← hA]; exact hi1)
        rw [← hA] at this
        simp only [leB_true] at h2
        omega
      · exact ⟨⟨i + 1, hi1⟩, ⟨[], rfl, ⟨slot (i64_1 (n := i) (by omega)), rfl, rfl, rfl, rfl, rfl, rfl, trivial⟩, trivial⟩, Nat.sub_lt_sub_left hi1 (Nat.lt_succ_self i)⟩
  · have hie : i = A.length := geN hi (by rw [← nums_len A]; exact h1)
    clear h1
    have lB : B.length ≤ 9 := by rw [hB]; have := flow_len L x.int; omega
    refine ⟨{ k : Nat // k ≤ B.length }, 1, fun k => ([(22, .dat i64 (.I k.1)), (17, .dat .bool (.B (dnB A top.int i))), (13, .dat (.slice u64) (.L (nums B))), (11, .dat (.slice u64) (.L (nums A))), (9, .dat (.slice ruleS) (.L L)), (2, .dat u64 (.I x.int)), (3, .dat u64 (.I top.int))],
      []), fun k => B.length - k.1, ⟨0, by omega⟩, ⟨[], rfl, ⟨rfl, rfl, rfl, rfl, rfl, rfl, rfl, trivial⟩, trivial⟩, ?_⟩
    intro y
    obtain ⟨k, hk⟩ := y
    refine ⟨fun h1 => ?_, fun h1 => ?_⟩
    · have hk1 : k < B.length := by have : k < (nums B).length := ltN h1; rwa [nums_len] at this
      clear h1
      refine ⟨(by show 0 ≤ (k : Int) ∧ (k : Int) < ((nums B).length : Int); rw [nums_len]; exact ix hk1), fun h1 => Bears.bool ?_, fun h1 => ?_⟩
      · exfalso
        replace h1 : (!hasI (nums A) ((nums B).getD k .Z).int) = true := eqmp (by kernel_rfl) h1
        rw [hasI_nums, nums_get hk1, D.int_I, Bool.not_eq_true', List.contains_eq_mem, decide_eq_false_iff_not] at h1
        refine h1 (hA ▸ hsub _ ?_)
        rw [← hB, List.getD_eq_getElem?_getD, List.getElem?_eq_getElem hk1]; exact List.getElem_mem hk1
      · exact ⟨⟨k + 1, hk1⟩, ⟨[], rfl, ⟨slot (i64_1 (n := k) (by omega)), rfl, rfl, rfl, rfl, rfl, rfl, trivial⟩, trivial⟩, Nat.sub_lt_sub_left hk1 (Nat.lt_succ_self k)⟩
    · refine Bears.bool ?_
      show (listF (.L L) == 0 && downB (.L L) x.int top.int == dnB A top.int i && true) = true
      have e : downB (.L L) x.int top.int = dnB A top.int i := by
        rw [downB, eA, ← hA, hie, dnB, List.take_length, nums, List.any_map]; rfl
      rw [hr, e]; simp
theorem flw_ok : SumOK Try.prog 5 sFl := sumOK_of_vc (c := cFlw) (ctxK (.cons rls_ok (.cons mod_ok (.cons flows_ok (.cons down_ok (.cons sameU_ok (.cons hasL_ok (.cons awake_ok .nil)))))))) mixed Try.func5 rfl (by decide) @flw_fun
end Go.Proofs.Ytjjpeeppfnhiiaa
