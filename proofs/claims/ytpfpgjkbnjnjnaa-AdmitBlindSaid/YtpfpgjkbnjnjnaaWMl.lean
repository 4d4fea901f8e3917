/- Gates made of numbers: step, made, many. -/
import Derived.Test.YtpfpgjkbnjnjnaaWMj
namespace Go.Proofs.Ytpfpgjkbnjnjnaa
open Go Go.Vm Rg
set_option linter.unusedSimpArgs false
set_option linter.unusedVariables false
set_option maxRecDepth 10000
def w64 (n : Int) : Int := IntKind.i64.wrap n
def kG (n : Int) : Int := Cf.modI n 1073741824
def labK (j : Int) : Int := (Cf.labs5.getD j.toNat .Z).int
def relN (c : D) (k : Int) : Int := (w64 (k.tdiv 6)).tmod (Cf.nR c)
def relD (k : Int) : D := .L [.I (labK ((w64 (k.tdiv 48)).tmod 5)), .I (IntKind.u64.wrap (w64 (1 + (w64 (k.tdiv 240)).tmod 9)))]
def putD' (k : Int) : D := .L [.I (labK ((w64 (k.tdiv 6)).tmod 5)), .I ((w64 (k.tdiv 30)).tmod 3), .I ((w64 (k.tdiv 90)).tmod 12)]
def stG (c g : D) (n : Int) : D :=
  if ((kG n).tmod 6 == 0) = true then tkG c g
  else if ((kG n).tmod 6 == 1 && ltB 0 (Cf.nR c)) = true then (if rlE c g (relN c (kG n)) (relD (kG n)) = 0 then rlG c g (relN c (kG n)) (relD (kG n)) else g)
  else (if puE c g (putD' (kG n)) = 0 then puG c g (putD' (kG n)) else g)
def sStp : Sum := ⟨[Cf.configS, gateS, i64], fun
  | [c, g, _] => some (∃ i, i ≤ 30 ∧ GInv c g i)
  | _ => none, fun
  | [c, g, n] => .tup [.dat gateS (stG c g n.int), .dat .bool (.B true)]
  | _ => .und⟩
def cStp : Ctx := ⟨tabK, refsM, [(20, Cf.sMod), (25, Cf.sLabels), (14, sTkA), (13, sRl), (21, sPu)], [], keep, mpsM⟩
theorem kG_range (n : Int) : 0 ≤ kG n ∧ kG n < 1073741824 := Cf.modI_range (by omega) (by omega)
theorem ix_mod {k : Int} (k0 : 0 ≤ k) (k1 : k < 1073741824) (d : Int) (d1 : 0 < d) (m : Int) (m1 : 0 < m) : 0 ≤ (w64 (k.tdiv d)).tmod m ∧ (w64 (k.tdiv d)).tmod m < m := by
  have h0 : 0 ≤ k.tdiv d := Int.tdiv_nonneg k0 (Int.le_of_lt d1)
  have h1 : k.tdiv d ≤ k := Int.tdiv_le_self d k0
  rw [w64, wrap_i64 (by omega) (by omega)]
  exact ⟨Int.tmod_nonneg _ h0, Int.tmod_lt_of_pos _ m1⟩
def okErr (E : Int) : Bool := E == 7 || E == 11 || E == 14 || E == 15 || E == 6
theorem okE_of {E : Int} (h : E ≠ 0) (h1 : E = 0 ∨ E = 7 ∨ E = 11 ∨ E = 14 ∨ E = 15 ∨ E = 6) : okErr E = true := by
  rcases h1 with h1 | h1 | h1 | h1 | h1 | h1
  · exact absurd h1 h
  all_goals rw [h1]; rfl
theorem okE_pu {c g e : D} {i : Nat} (I : GInv c g i) (hi : i ≤ 100) (h : puE c g e ≠ 0) : okErr (puE c g e) = true := by
  rw [(pu_y I.gk).1] at h ⊢
  refine okE_of h ?_
  rcases pa_in I hi (e := e) with k | k | k | k | k <;> simp [k]
theorem relN_in {c : D} {n : Int} (h : ltB 0 (Cf.nR c : Int) = true) : 0 ≤ relN c (kG n) ∧ relN c (kG n) < (Cf.nR c : Int) := by
  rw [ltB_true] at h
  exact ix_mod (kG_range n).1 (kG_range n).2 6 (by decide) _ h
theorem stq_1 {c g : D} {n : Int} (h : ((kG n).tmod 6 == 0) = true) : stG c g n = tkG c g := if_pos h
theorem stq_2 {c g : D} {n : Int} (h : ((kG n).tmod 6 == 0) = false) (h2 : ((kG n).tmod 6 == 1 && ltB 0 (Cf.nR c)) = true) : stG c g n = if rlE c g (relN c (kG n)) (relD (kG n)) = 0 then rlG c g (relN c (kG n)) (relD (kG n)) else g :=
  (if_neg (by rw [h]; decide)).trans (if_pos h2)
theorem stq_3 {c g : D} {n : Int} (h : ((kG n).tmod 6 == 0) = false) (h2 : ((kG n).tmod 6 == 1 && ltB 0 (Cf.nR c)) = false) : stG c g n = if puE c g (putD' (kG n)) = 0 then puG c g (putD' (kG n)) else g :=
  (if_neg (by rw [h]; decide)).trans (if_neg (by rw [h2]; decide))
theorem stp_fun : FunOK cStp 100 Try.f39 sStp := fun c hc g hg n hn hp => by
  obtain ⟨i, hi, I⟩ : ∃ i, i ≤ 30 ∧ GInv c g i := hp
  have ht := g_tick I hi
  have kr := kG_range n.int
  refine ⟨ne0 rfl, fun h1 => ⟨Bears.same (eqSame (stq_1 h1).symm), Bears.bool ?_, trivial⟩, fun h1 => ⟨ne0 rfl, fun h2 => ⟨ne0 rfl, ?_, ne0 rfl, ne0 rfl, ?_, ne0 rfl, ne0 rfl, by kernel_rfl, fun h3 => ⟨Bears.same (eqSame ?_), Bears.bool rfl, trivial⟩, fun h3 => ⟨Bears.same (eqSame ?_), Bears.bool ?_, trivial⟩⟩, fun h2 => ⟨ne0 rfl, ne0 rfl, ?_, ne0 rfl, ne0 rfl, ne0 rfl, ne0 rfl, by kernel_rfl, fun h3 => ⟨Bears.same (eqSame ?_), Bears.bool rfl, trivial⟩, fun h3 => ⟨Bears.same (eqSame ?_), Bears.bool ?_, trivial⟩⟩⟩⟩
  · show (tkE c g == 0) = true
    rw [ht.1]; rfl
  · have h4 : ltB 0 (Cf.nR c : Int) = true := by
      have h2 : ((kG n.int).tmod 6 == 1 && ltB 0 (Cf.nR c : Int)) = true := h2
      rw [Bool.and_eq_true] at h2; exact h2.2
    rw [ltB_true] at h4
    show (Cf.nR c : Int) ≠ 0
    omega
  · exact ix_mod kr.1 kr.2 48 (by decide) 5 (by decide)
  · exact ((stq_2 h1 h2).trans (if_pos (eqT h3))).symm
  · exact ((stq_2 h1 h2).trans (if_neg (eqF h3))).symm
  · have h4 : ltB 0 (Cf.nR c : Int) = true := by
      have h2 : ((kG n.int).tmod 6 == 1 && ltB 0 (Cf.nR c : Int)) = true := h2
      rw [Bool.and_eq_true] at h2; exact h2.2
    have h5 := relN_in (n := n.int) h4
    exact okE_of (E := rlE c g (relN c (kG n.int)) (relD (kG n.int))) (eqF h3) (rl_in I (by omega) h5.1 h5.2)
  · exact ix_mod kr.1 kr.2 6 (by decide) 5 (by decide)
  · exact ((stq_3 h1 h2).trans (if_pos (eqT h3))).symm
  · exact ((stq_3 h1 h2).trans (if_neg (eqF h3))).symm
  · exact okE_pu (e := putD' (kG n.int)) I (by omega) (eqF h3)
theorem g_st {c g : D} {n : Int} {i : Nat} (I : GInv c g i) (hi : i ≤ 30) : GInv c (stG c g n) (i + 1) := by
  cases h1 : ((kG n).tmod 6 == 0) with
  | true => rw [stq_1 h1]; exact (g_tick I hi).2.2
  | false =>
    cases h2 : ((kG n).tmod 6 == 1 && ltB 0 (Cf.nR c)) with
    | true =>
      rw [stq_2 h1 h2]
      split
      · rename_i h3; exact g_rel I h3
      · exact I.skip
    | false =>
      rw [stq_3 h1 h2]
      split
      · rename_i h3
        rw [(pu_y I.gk).2.1]
        exact g_put I ((pu_y I.gk).1 ▸ h3)
      · exact I.skip
def mgG (c : D) (l : List D) : Nat → D
  | 0 => gN c
  | i + 1 => stG c (mgG c l i) (l.getD i .Z).int
theorem g_mg {c : D} (h : Cf.chE c = 0) (l : List D) : ∀ {i : Nat}, i ≤ 30 → GInv c (mgG c l i) i
  | 0, _ => g_new h
  | i + 1, hi => g_st (g_mg h l (by omega)) (by omega)
def mgN (l : List D) : Nat := min l.length 25
def sMdg : Sum := ⟨[i64, .slice i64], fun _ => none, fun
  | [n, l] => .tup [.dat Cf.configS (Cf.cfgD (Cf.cfgK n.int)), .dat gateS (mgG (Cf.cfgD (Cf.cfgK n.int)) l.list (mgN l.list)), .dat .bool (.B true)]
  | _ => .und⟩
def cMdg : Ctx := ⟨tabK, refsM, [(23, Cf.sCfg), (24, sGN), (39, sStp), (30, sGk)], [], keep, mpsM⟩
theorem mgN_lt {l : List D} {i : Nat} (h : (ltB (i : Int) (l.length : Int) && ltB (i : Int) 25 && true) = true) : i < mgN l ∧ i < l.length := by
  simp only [Bool.and_eq_true, ltB_true] at h
  rw [mgN]; omega
theorem mgN_ge {l : List D} {i : Nat} (hi : i ≤ mgN l) (h : (ltB (i : Int) (l.length : Int) && ltB (i : Int) 25 && true) = false) : i = mgN l := by
  apply Classical.byContradiction
  intro hn
  have : (ltB (i : Int) (l.length : Int) && ltB (i : Int) 25 && true) = true := by
    simp only [Bool.and_eq_true, ltB_true]
    rw [mgN] at hi hn
    refine ⟨⟨by omega, by omega⟩, trivial⟩
  rw [this] at h; cases h
theorem mdg_fun : FunOK cMdg 100 Try.f19 sMdg := fun n hn l hl _ => by
  have kr := Cf.cfgK_range n.int
  have hc : Cf.chE (Cf.cfgD (Cf.cfgK n.int)) = 0 := Cf.cfg_right kr.1 kr.2
  generalize hC : Cf.cfgD (Cf.cfgK n.int) = c at hc
  refine ⟨{ i : Nat // i ≤ mgN l.list }, 4, fun i => ([(11, .dat i64 (.I i.1)), (10, .dat .bool (.B true)), (8, .ptr 3 gateS [] gateS), (7, .ptr 2 Cf.configS [] Cf.configS), (6, .dat .bool (.B false)), (5, .ptr 1 gateS [] gateS), (4, .ptr 0 Cf.configS [] Cf.configS), (1, .dat (.slice i64) l)], [(3, .box gateS (.dat gateS (mgG c l.list i.1))), (2, .box Cf.configS (.dat Cf.configS c)), (1, .box gateS (.st [storeS, Cf.ratesS] [.dat storeS (D0 storeS), .dat Cf.ratesS (D0 Cf.ratesS)])), (0, .box Cf.configS (.st [.slice Cf.classS, .arr 6 Cf.tenS, .slice Cf.ruleS, u64] [.cst (Value.slice none 0 0), .dat (.arr 6 Cf.tenS) (D0 (.arr 6 Cf.tenS)), .cst (Value.slice none 0 0), .dat u64 (D0 u64)]))]), fun i => mgN l.list - i.1,
    ⟨0, Nat.zero_le _⟩, ⟨[], rfl, ⟨rfl, slotB ?_, rfl, rfl, rfl, rfl, rfl, rfl, trivial⟩, ⟨bx ?_, bx ?_, rfl, rfl, trivial⟩⟩, ?_⟩
  · show (Cf.chE (Cf.cfgD (Cf.cfgK n.int)) == 0) = true
    rw [hC, hc]; rfl
  · show gN (Cf.cfgD (Cf.cfgK n.int)) = gN c
    rw [hC]
  · exact hC
  intro i
  obtain ⟨i, hi⟩ := i
  have h25 : mgN l.list ≤ 25 := Nat.min_le_right ..
  have I := g_mg hc l.list (i := i) (by omega)
  refine ⟨fun h1 => ⟨?_, ⟨i, by omega, I⟩, by kernel_rfl, ?_⟩, fun h1 => ⟨by kernel_rfl, Bears.same (eqSame hC.symm), Bears.same (eqSame ?_), Bears.bool ?_, trivial⟩⟩
  · have h2 := mgN_lt h1
    exact ix h2.2
  · have h2 := mgN_lt h1
    exact ⟨⟨i + 1, h2.1⟩, ⟨[], rfl, ⟨slot (i64_1 (n := i) (by omega)), rfl, rfl, rfl, rfl, rfl, rfl, rfl, trivial⟩, ⟨rfl, rfl, rfl, rfl, trivial⟩⟩, stepLt h2.1⟩
  · show mgG c l.list i = mgG (Cf.cfgD (Cf.cfgK n.int)) l.list (mgN l.list)
    rw [hC, ← mgN_ge hi h1]
  · show (true && gkE c (mgG c l.list i) == 0) = true
    rw [I.gk]; rfl
/-! ### many -/
def mnW (g : D) (L : Int) : Nat → Int
  | 0 => 0
  | i + 1 => if (labG (gS g) i == L) = true then w64 (mnW g L i + w64 (IntKind.u64.wrap (((rgAt (gS g) i).nth 3).int - ((rgAt (gS g) i).nth 2).int))) else mnW g L i
def sMny : Sum := ⟨[gateS, u64], fun _ => none, fun
  | [g, l] => .dat i64 (.I (mnW g l.int (nG (gS g))))
  | _ => .und⟩
def c0K : Ctx := ⟨tabK, refsM, [], [], keep, mpsM⟩
theorem mny_fun : FunOK c0K 60 Try.f22 sMny := fun g hg l hl _ => by
  refine ⟨{ i : Nat // i ≤ nG (gS g) }, 1, fun i => ([(6, .dat i64 (.I i.1)), (5, .dat i64 (.I (mnW g l.int i.1))), (4, .dat i64 (.I 0)), (2, .ptr 0 gateS [] gateS), (1, .dat u64 (.I l.int))], [(0, .box gateS (.dat gateS g))]), fun i => nG (gS g) - i.1,
    ⟨0, Nat.zero_le _⟩, ⟨[], rfl, ⟨rfl, rfl, rfl, rfl, rfl, trivial⟩, ⟨rfl, trivial⟩⟩, ?_⟩
  intro i
  obtain ⟨i, hi⟩ := i
  refine ⟨fun h1 => ⟨ix (ltN h1), fun h2 => ⟨ix (ltN h1), ix (ltN h1), by kernel_rfl, ?_⟩, fun h2 => ?_⟩, fun h1 => Bears.int ?_⟩
  · have hlt : i < nG (gS g) := ltN h1
    refine ⟨⟨i + 1, hlt⟩, ⟨[], rfl, ⟨slot (i64_1 (n := i) ?_), slot (if_pos h2).symm, rfl, rfl, rfl, trivial⟩, ⟨rfl, trivial⟩⟩, stepLt hlt⟩
    have := hg.1.1.1
    have : nG (gS g) ≤ 9223372036854775807 := this
    omega
  · have hlt : i < nG (gS g) := ltN h1
    refine ⟨⟨i + 1, hlt⟩, ⟨[], rfl, ⟨slot (i64_1 (n := i) ?_), slot (if_neg (by rw [show (labG (gS g) i == l.int) = false from h2]; decide)).symm, rfl, rfl, rfl, trivial⟩, ⟨rfl, trivial⟩⟩, stepLt hlt⟩
    have := hg.1.1.1
    have : nG (gS g) ≤ 9223372036854775807 := this
    omega
  · have e : i = nG (gS g) := geN hi h1
    show mnW g l.int i = mnW g l.int (nG (gS g))
    rw [e]
theorem stp_sum : SumOK Try.prog 39 sStp := sumOK_of_vc (c := cStp) (ctxK (.cons Cf.mod_ok (.cons Cf.labels5_ok (.cons tk_sum (.cons rl_sum (.cons puA_sum .nil)))))) mixed Try.func39 rfl (by decide) @stp_fun
theorem mdg_sum : SumOK Try.prog 19 sMdg := sumOK_of_vc (c := cMdg) (ctxK (.cons Cf.cfg_ok (.cons gn_sum (.cons stp_sum (.cons gk_sum .nil))))) mixed Try.func19 rfl (by decide) @mdg_fun
theorem mny_sum : SumOK Try.prog 22 sMny := sumOK_of_vc (c := c0K) (ctxK .nil) mixed Try.func22 rfl (by decide) @mny_fun
/-! ### How many events a label has -/
theorem chk_room {r : D} (h : chk r = 0) : 0 ≤ (r.nth 3).int - (r.nth 2).int ∧ (r.nth 3).int - (r.nth 2).int ≤ (r.nth 1).int ∧ (r.nth 1).int ≤ 64 ∧ (cap r : Int) = (r.nth 3).int - (r.nth 2).int := by
  have hb := badR_false (chk_bad h)
  have e : (cap r : Int) = ((((r.nth 3).int - (r.nth 2).int).toNat : Nat) : Int) := rfl
  omega
theorem mnW_none {g : D} {L : Int} : ∀ {n : Nat}, (∀ k, k < n → labG (gS g) k ≠ L) → mnW g L n = 0
  | 0, _ => rfl
  | n + 1, h => by
    rw [mnW, if_neg (by have := h n (Nat.lt_succ_self n); simp [this]), mnW_none fun k hk => h k (by omega)]
theorem mnW_one {g : D} {L : Int} {j : Nat} (hj : labG (gS g) j = L) (hr : chk (rgAt (gS g) j) = 0) : ∀ {n : Nat}, j < n → (∀ k, k < n → k ≠ j → labG (gS g) k ≠ L) → mnW g L n = cap (rgAt (gS g) j)
  | n + 1, h, h2 => by
    have h3 := chk_room hr
    rcases Nat.lt_or_eq_of_le (Nat.le_of_lt_succ h) with e | e
    · rw [mnW, if_neg (by have := h2 n (Nat.lt_succ_self n) (by omega); simp [this])]
      exact mnW_one hj hr e fun k hk => h2 k (by omega)
    · subst e
      rw [mnW, if_pos (by simp [hj]), mnW_none fun k hk => h2 k (by omega) (by omega), w64, w64, wrap_u64 h3.1 (by omega), wrap_i64 (n := ((rgAt (gS g) j).nth 3).int - ((rgAt (gS g) j).nth 2).int) (by omega) (by omega), Int.zero_add, wrap_i64 (by omega) (by omega), h3.2.2.2]
/-- How many events a class has. -/
theorem many_is {c g : D} (h : gkE c g = 0) {k : Nat} (hk : k < Cf.nC c) : mnW g (Cf.labAt c k) (nG (gS g)) = cap (rgAt (gS g) k) ∧ (cap (rgAt (gS g) k) : Int) ≤ Cf.sizeAt c k := by
  have hn := (gk_nG h).1
  have hl := gk_at h hk
  have hc : chk (rgAt (gS g) k) = 0 := (st_ok (gk_ok h).2.1).1.2 k (by rw [hn]; exact hk)
  refine ⟨mnW_one hl.1 hc (by rw [hn]; exact hk) fun j hj hne e => hne (lab_inj (st_ok (gk_ok h).2.1).2.1 (by rw [hn]; exact hk) hj (by rw [e, hl.1])), ?_⟩
  have h3 := chk_room hc
  rw [← hl.2]
  show (cap (rgAt (gS g) k) : Int) ≤ ((rgAt (gS g) k).nth 1).int
  omega
end Go.Proofs.Ytpfpgjkbnjnjnaa
