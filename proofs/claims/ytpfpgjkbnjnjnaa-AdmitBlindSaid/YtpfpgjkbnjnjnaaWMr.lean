/- 'AdmitBlind'. -/
import Derived.Test.YtpfpgjkbnjnjnaaWMq
namespace Go.Proofs.Ytpfpgjkbnjnjnaa
open Go Go.Vm Rg
set_option linter.unusedSimpArgs false
set_option linter.unusedVariables false
set_option maxRecDepth 10000
def sBld : Sum := ⟨[i64, .slice i64, u64], fun _ => none, fun _ => .dat .bool (.B true)⟩
noncomputable def cBld : Ctx := ⟨tabK, refsM, [(3, sTrueT), (23, Cf.sCfg), (24, sGN), (25, Cf.sLabels), (20, Cf.sMod), (14, sTkA), (21, sPu), (30, sGk), (37, sListT), (38, Cf.sSeen), (17, Cf.sSameI), (26, sSame)], [(15, Try.f15)], keep, mpsM⟩
structure BX (l cl c : D) where
  i : Nat
  a : D
  b : D
  hi : i ≤ Tw.mdN l.list
  inv : BInv c cl.int a b i
theorem neT {a b : Int} (h : (a != b) = true) : a ≠ b := by simpa using h
/-- The first events' Orders set to 0. -/
def zi (F : List D) (j : Nat) : List D := (F.take j).map zO ++ F.drop j
theorem zi_len (F : List D) (j : Nat) : (zi F j).length = F.length := by
  rw [zi, List.length_append, List.length_map, List.length_take, List.length_drop]; omega
theorem zi_at {F : List D} {j : Nat} (h : j < F.length) : (zi F j).getD j .Z = F.getD j .Z := by
  have hl : ((F.take j).map zO).length = j := by rw [List.length_map, List.length_take]; omega
  rw [zi, List.getD_eq_getElem?_getD, List.getElem?_append_right (by omega), hl, Nat.sub_self, List.getElem?_drop, Nat.add_zero, List.getD_eq_getElem?_getD]
theorem zi_set {F : List D} {j : Nat} (h : j < F.length) : (zi F j).set j (D.puts storedS ((zi F j).getD j .Z) [.fld 1] (.I 0)) = zi F (j + 1) := by
  have hl : ((F.take j).map zO).length = j := by rw [List.length_map, List.length_take]; omega
  rw [zi_at h, zi, zi, List.set_append_right _ _ (by omega), hl, Nat.sub_self, drop_cons h, List.set_cons_zero, take_succ h, List.map_append, List.append_assoc]
  rfl
theorem zi_all (F : List D) : zi F F.length = F.map zO := by rw [zi, List.take_length, List.drop_length, List.append_nil]
abbrev xB (l : D) (i : Nat) : D := putD' (kG (l.list.getD i .Z).int)
theorem xB_good (l : D) (i : Nat) : evBad (xB l i) = false := by
  have hk := kG_range (l.list.getD i .Z).int
  have h := ix_mod hk.1 hk.2 30 (by decide) 3 (by decide)
  exact ev_kind (show 0 ≤ (w64 ((kG (l.list.getD i .Z).int).tdiv 30)).tmod 3 from h.1) (show (w64 ((kG (l.list.getD i .Z).int).tdiv 30)).tmod 3 ≤ 25 by omega)
theorem bq_lit {c a b e : D} {L : Int} {i : Nat} (I : BInv c L a b i) (hi : i ≤ 100) (h : puE c a e = 0) (hb : Cf.belowB (labE e) L = true) : BInv c L (puG c a e) (puG c b e) (i + 1) := by
  rw [(pu_y I.A.gk).2.1, (pu_y I.B.gk).2.1]
  exact b_lit I hi ((pu_y I.A.gk).1 ▸ h) hb
theorem bq_dark {c a b e : D} {L : Int} {i : Nat} (I : BInv c L a b i) (h : puE c a e = 0) (hb : Cf.belowB (labE e) L = false) : BInv c L (puG c a e) b (i + 1) := by
  rw [(pu_y I.A.gk).2.1]
  exact b_dark I ((pu_y I.A.gk).1 ▸ h) hb
theorem bq_same {c a b e : D} {L : Int} {i : Nat} (I : BInv c L a b i) (hi : i ≤ 100) (h0 : evBad e = false) (hb : Cf.belowB (labE e) L = true) : puE c a e = puE c b e := by
  rw [(pu_y I.A.gk).1, (pu_y I.B.gk).1]; exact b_same I hi h0 hb
set_option maxHeartbeats 4000000 in
theorem bld_fun : FunOK cBld 300 Try.f6 sBld := fun n hn l hl cl hcl _ => by
  have hc := c_ok n
  refine ⟨fun h1 => absurd h1 ?_, fun h1 => ?_⟩
  · show ¬ (Cf.chE (cD n) != 0 || Cf.chE (cD n) != 0) = true
    rw [hc]; decide
  clear h1
  refine ⟨BX l cl (cD n), 3, fun x => ([(14, .dat i64 (.I x.i)), (13, .dat (.slice u64) (.L Cf.labs5)), (11, .ptr 2 gateS [] gateS), (9, .ptr 1 gateS [] gateS), (8, .ptr 0 Cf.configS [] Cf.configS), (7, .dat .bool (.B true)), (6, .dat .bool (.B false)), (1, .dat (.slice i64) l), (2, .dat u64 (.I cl.int))],
    [(2, .box gateS (.dat gateS x.b)), (1, .box gateS (.dat gateS x.a)), (0, .box Cf.configS (.dat Cf.configS (cD n)))]), fun x => Tw.mdN l.list - x.i,
    ⟨0, gN (cD n), gN (cD n), Nat.zero_le _, b_new hc cl.int⟩, ⟨[], rfl, ⟨rfl, rfl, rfl, rfl, rfl, rfl, rfl, rfl, rfl, trivial⟩, ⟨rfl, rfl, rfl, trivial⟩⟩, ?_⟩
  intro x
  obtain ⟨i, a, b, hi, I⟩ := x
  have h30 : Tw.mdN l.list ≤ 30 := Nat.min_le_right ..
  refine ⟨fun h1 => ?_, fun h1 => ?_⟩
  · have hlt := Tw.mdN_lt h1
    have kr := kG_range (l.list.getD i .Z).int
    have st1 : IntKind.i64.wrap ((i : Int) + 1) = ((i + 1 : Nat) : Int) := i64_1 (n := i) (by omega)
    have ta := (g_tick I.A (by omega)).1
    have tb := (g_tick I.B (by omega)).1
    refine ⟨ix hlt.2, ne0 rfl, ne0 rfl, ix_mod kr.1 kr.2 6 (by decide) 5 (by decide), ne0 rfl, ne0 rfl, ne0 rfl, ne0 rfl, ne0 rfl, fun h2 => ⟨fun h3 => ⟨fun h4 => ?_, fun h4 => absurd tb (eqF h4)⟩, fun h3 => absurd ta (eqF h3)⟩, fun h2 => ⟨fun h3 => ?_, fun h3 => ?_⟩⟩
    · exact ⟨⟨i + 1, tkG (cD n) a, tkG (cD n) b, hlt.1, b_tick I (by omega)⟩, ⟨[], rfl, ⟨slot st1, rfl, rfl, rfl, rfl, rfl, rfl, rfl, rfl, trivial⟩, ⟨rfl, rfl, rfl, trivial⟩⟩, stepLt hlt.1⟩
    · have hb : Cf.belowB (labE (xB l i)) cl.int = true := h3
      have hs := bq_same I (by omega) (xB_good l i) hb
      refine ⟨fun h4 => absurd hs (neT h4), fun h4 => ⟨fun h5 => ⟨fun h6 => ?_, fun h6 => absurd (hs.symm.trans (eqT h5)) (eqF h6)⟩, fun h5 => ⟨fun h6 => absurd (hs.trans (eqT h6)) (eqF h5), fun h6 => ?_⟩⟩⟩
      · exact ⟨⟨i + 1, puG (cD n) a (xB l i), puG (cD n) b (xB l i), hlt.1, bq_lit I (by omega) (eqT h5) hb⟩, ⟨[], rfl, ⟨slot st1, rfl, rfl, rfl, rfl, rfl, rfl, rfl, rfl, trivial⟩, ⟨rfl, rfl, rfl, trivial⟩⟩, stepLt hlt.1⟩
      · exact ⟨⟨i + 1, a, b, hlt.1, b_skip I⟩, ⟨[], rfl, ⟨slot st1, rfl, rfl, rfl, rfl, rfl, rfl, rfl, rfl, trivial⟩, ⟨rfl, rfl, rfl, trivial⟩⟩, stepLt hlt.1⟩
    · have hb : Cf.belowB (labE (xB l i)) cl.int = false := h3
      refine ⟨fun h4 => ⟨fun h5 => (by cases h5), fun h5 => ?_⟩, fun h4 => ⟨fun h5 => (by cases h5), fun h5 => ?_⟩⟩
      · exact ⟨⟨i + 1, puG (cD n) a (xB l i), b, hlt.1, bq_dark I (eqT h4) hb⟩, ⟨[], rfl, ⟨slot st1, rfl, rfl, rfl, rfl, rfl, rfl, rfl, rfl, trivial⟩, ⟨rfl, rfl, rfl, trivial⟩⟩, stepLt hlt.1⟩
      · exact ⟨⟨i + 1, a, b, hlt.1, b_skip I⟩, ⟨[], rfl, ⟨slot st1, rfl, rfl, rfl, rfl, rfl, rfl, rfl, rfl, trivial⟩, ⟨rfl, rfl, rfl, trivial⟩⟩, stepLt hlt.1⟩
  have hA := I.A.gk
  have hB := I.B.gk
  have sA : stE (gS a) = 0 := (gk_ok hA).2.1
  have sB : stE (gS b) = 0 := (gk_ok hB).2.1
  clear h1
  refine ⟨fun h2 => absurd hA (bneT h2), fun h2 => ⟨fun h3 => absurd sA (bneT h3), fun h3 => ?_⟩⟩
  clear h2 h3
  obtain ⟨X, hX⟩ : ∃ X, X = listT (gS a) := ⟨_, rfl⟩
  obtain ⟨Y, hY⟩ : ∃ Y, Y = listT (gS b) := ⟨_, rfl⟩
  have hXl : X.length ≤ 512 := by rw [hX]; exact list_len sA
  have hYl : Y.length ≤ 512 := by rw [hY]; exact list_len sB
  refine ⟨{ k : Nat // k ≤ X.length }, 9, fun k => ([(33, .dat i64 (.I k.1)), (32, .dat i64 (.I X.length)), (31, .dat (.slice storedS) (.L X)), (12, .own 8 storedS), (4, .ptr 4 gateS [] gateS), (3, .ptr 3 Cf.configS [] Cf.configS), (2, .dat u64 (.I cl.int))], [(8, .grow storedS ((X.take k.1).filter (seeP cl.int))), (4, .box gateS (.dat gateS a)), (3, .box Cf.configS (.dat Cf.configS (cD n))), (2, .box gateS (.dat gateS b)), (1, .box gateS (.dat gateS a)), (0, .box Cf.configS (.dat Cf.configS (cD n)))]), fun k => X.length - k.1,
    ⟨0, Nat.zero_le _⟩, ⟨[(8, 7)], rfl, ⟨rfl, slot (by rw [hX]; rfl), slotD (congrArg D.L hX.symm), rfl, rfl, rfl, rfl, trivial⟩, ⟨rfl, rfl, rfl, rfl, rfl, rfl, trivial⟩⟩, ?_⟩
  intro k
  obtain ⟨k, hk⟩ := k
  have hf : ∀ k, ((X.take k).filter (seeP cl.int)).length ≤ 512 := fun k => by
    have h := List.length_filter_le (seeP cl.int) (X.take k)
    rw [List.length_take] at h; omega
  have yes : ∀ (hlt : k < X.length), seeP cl.int (X.getD k .Z) = true → (X.take k).filter (seeP cl.int) ++ [X.getD k .Z] = (X.take (k + 1)).filter (seeP cl.int) := fun hlt h => by rw [fil_take hlt, if_pos h]
  have no : ∀ (hlt : k < X.length), seeP cl.int (X.getD k .Z) = false → (X.take k).filter (seeP cl.int) = (X.take (k + 1)).filter (seeP cl.int) := fun hlt h => by rw [fil_take hlt, if_neg (by rw [h]; decide), List.append_nil]
  refine ⟨fun h1 => ⟨ix (ltN h1), fun h2 => ⟨?_, ?_⟩, fun h2 => ?_⟩, fun h1 => ?_⟩
  · show ((X.take k).filter (seeP cl.int)).length + 1 ≤ 1073741824
    have := hf k; omega
  · have hlt : k < X.length := ltN h1
    exact ⟨⟨k + 1, hlt⟩, ⟨[(8, 11)], rfl, ⟨slot (i64_1 (n := k) (by omega)), rfl, rfl, rfl, rfl, rfl, rfl, trivial⟩, ⟨gro (yes hlt h2), rfl, rfl, rfl, rfl, rfl, trivial⟩⟩, stepLt hlt⟩
  · have hlt : k < X.length := ltN h1
    exact ⟨⟨k + 1, hlt⟩, ⟨[], rfl, ⟨slot (i64_1 (n := k) (by omega)), rfl, rfl, rfl, rfl, rfl, rfl, trivial⟩, ⟨gro (no hlt h2), rfl, rfl, rfl, rfl, rfl, trivial⟩⟩, stepLt hlt⟩
  have ek : k = X.length := geN hk h1
  subst ek
  clear h1 yes no
  refine ⟨fun h2 => absurd hB (bneT h2), fun h2 => ⟨fun h3 => absurd sB (bneT h3), fun h3 => ?_⟩⟩
  clear h2 h3
  rw [List.take_length]
  generalize hFX : X.filter (seeP cl.int) = FX
  refine ⟨{ k : Nat // k ≤ Y.length }, 15, fun k => ([(33, .dat i64 (.I k.1)), (32, .dat i64 (.I Y.length)), (31, .dat (.slice storedS) (.L Y)), (12, .own 14 storedS), (4, .ptr 10 gateS [] gateS), (3, .ptr 9 Cf.configS [] Cf.configS), (2, .dat u64 (.I cl.int))], [(14, .grow storedS ((Y.take k.1).filter (seeP cl.int))), (10, .box gateS (.dat gateS b)), (9, .box Cf.configS (.dat Cf.configS (cD n))), (8, .grow storedS FX)]), fun k => Y.length - k.1,
    ⟨0, Nat.zero_le _⟩, ⟨[(14, 13)], rfl, ⟨rfl, slot (by rw [hY]; rfl), slotD (congrArg D.L hY.symm), rfl, rfl, rfl, rfl, trivial⟩, ⟨rfl, rfl, rfl, rfl, trivial⟩⟩, ?_⟩
  intro k
  obtain ⟨k, hk⟩ := k
  have hf : ∀ k, ((Y.take k).filter (seeP cl.int)).length ≤ 512 := fun k => by
    have h := List.length_filter_le (seeP cl.int) (Y.take k)
    rw [List.length_take] at h; omega
  have yes : ∀ (hlt : k < Y.length), seeP cl.int (Y.getD k .Z) = true → (Y.take k).filter (seeP cl.int) ++ [Y.getD k .Z] = (Y.take (k + 1)).filter (seeP cl.int) := fun hlt h => by rw [fil_take hlt, if_pos h]
  have no : ∀ (hlt : k < Y.length), seeP cl.int (Y.getD k .Z) = false → (Y.take k).filter (seeP cl.int) = (Y.take (k + 1)).filter (seeP cl.int) := fun hlt h => by rw [fil_take hlt, if_neg (by rw [h]; decide), List.append_nil]
  refine ⟨fun h1 => ⟨ix (ltN h1), fun h2 => ⟨?_, ?_⟩, fun h2 => ?_⟩, fun h1 => ?_⟩
  · show ((Y.take k).filter (seeP cl.int)).length + 1 ≤ 1073741824
    have := hf k; omega
  · have hlt : k < Y.length := ltN h1
    exact ⟨⟨k + 1, hlt⟩, ⟨[(14, 17)], rfl, ⟨slot (i64_1 (n := k) (by omega)), rfl, rfl, rfl, rfl, rfl, rfl, trivial⟩, ⟨gro (yes hlt h2), rfl, rfl, rfl, trivial⟩⟩, stepLt hlt⟩
  · have hlt : k < Y.length := ltN h1
    exact ⟨⟨k + 1, hlt⟩, ⟨[], rfl, ⟨slot (i64_1 (n := k) (by omega)), rfl, rfl, rfl, rfl, rfl, rfl, trivial⟩, ⟨gro (no hlt h2), rfl, rfl, rfl, trivial⟩⟩, stepLt hlt⟩
  have ek : k = Y.length := geN hk h1
  subst ek
  clear h1 yes no
  rw [List.take_length]
  generalize hFY : Y.filter (seeP cl.int) = FY
  have hS : SimL FX FY := by
    rw [← hFX, ← hFY, hX, hY, ← listT_ok sA, ← listT_ok sB]; exact I.lst
  have hlen : FX.length = FY.length := hS.len
  have hFl : FX.length ≤ 512 := by
    rw [← hFX]
    exact Nat.le_trans (List.length_filter_le _ _) hXl
  have qA : Cf.qk (cD n) (gR a) = 0 := (gk_ok hA).2.2.2.2
  have qB : Cf.qk (cD n) (gR b) = 0 := (gk_ok hB).2.2.2.2
  refine ⟨fun h1 => absurd h1 ?_, fun h1 => ?_⟩
  · show ¬ (Cf.qk (cD n) (gR a) != 0 || Cf.qk (cD n) (gR b) != 0 || (FX.length : Int) != (FY.length : Int) || !Cf.sameI (if Cf.qk (cD n) (gR a) ≠ 0 then [] else Cf.seenU (cD n) (gR a) cl.int (Cf.nU (gR a))) (if Cf.qk (cD n) (gR b) ≠ 0 then [] else Cf.seenU (cD n) (gR b) cl.int (Cf.nU (gR b)))) = true
    rw [if_neg (fun k => k qA), if_neg (fun k => k qB), b_used I, Cf.sameI_rfl, qA, qB, hlen, neSelf, neSelf]; decide
  clear h1
  refine ⟨{ j : Nat // j ≤ FX.length }, 15, fun j => ([(27, .dat i64 (.I j.1)), (24, .own 14 storedS), (21, .own 8 storedS), (7, .dat .bool (.B true)), (6, .dat .bool (.B false))], [(14, .grow storedS (zi FY j.1)), (8, .grow storedS (zi FX j.1))]), fun j => FX.length - j.1,
    ⟨0, Nat.zero_le _⟩, ⟨[], rfl, ⟨rfl, rfl, rfl, rfl, rfl, trivial⟩, ⟨rfl, rfl, trivial⟩⟩, ?_⟩
  intro j
  obtain ⟨j, hj⟩ := j
  refine ⟨fun h1 => ?_, fun h1 => Bears.bool ?_⟩
  · have hlt : j < FX.length := by rw [← zi_len FX j]; exact ltN h1
    have hlt2 : j < FY.length := hlen ▸ hlt
    refine ⟨ix (by rw [zi_len]; exact hlt), ix (by rw [zi_len]; exact hlt2), ?_⟩
    exact ⟨⟨j + 1, hlt⟩, ⟨[], rfl, ⟨slot (i64_1 (n := j) (by omega)), rfl, rfl, rfl, rfl, trivial⟩, ⟨gro (zi_set hlt2), gro (zi_set hlt), trivial⟩⟩, stepLt hlt⟩
  · have ej : j = FX.length := by
      rw [← zi_len FX j]
      exact geN (by rw [zi_len]; exact hj) h1
    show (true && sameB (D.L (zi FX j)) (D.L (zi FY j))) = true
    have e1 : zi FX j = FX.map zO := by rw [ej]; exact zi_all FX
    have e2 : zi FY j = FY.map zO := by rw [ej, hlen]; exact zi_all FY
    rw [e1, e2, zO_same hS]; rfl
theorem bld_ok : SumOK Try.prog 6 sBld := sumOK_of_vc (c := cBld) (CtxOK.of tabKOK refsMOK (.cons known_ok (.cons Cf.cfg_ok (.cons gn_sum (.cons Cf.labels5_ok (.cons Cf.mod_ok (.cons tk_sum (.cons puA_sum (.cons gk_sum (.cons list_ok (.cons Cf.seen_ok (.cons Cf.sameInts_ok (.cons same_ok .nil)))))))))))) (.cons rfl rfl (by decide) .nil) mpsMOK) mixed Try.func6 rfl (by decide) @bld_fun
end Go.Proofs.Ytpfpgjkbnjnjnaa
