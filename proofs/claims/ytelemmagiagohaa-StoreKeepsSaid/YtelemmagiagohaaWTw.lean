/- Stores: StoreKeeps. -/
import Derived.Test.YtelemmagiagohaaWTv
namespace Go.Proofs.Ytelemmagiagohaa
open Go Go.Vm Rg
set_option linter.unusedSimpArgs false
set_option linter.unusedVariables false
set_option maxRecDepth 10000
theorem chE_hor {c : D} {h : Int} (hc : Cf.chE c = 0) (h1 : 1 ≤ h) (h2 : h ≤ 10000) : Cf.chE (D.puts Cf.configS c [.fld 3] (.I h)) = 0 := by
  have hk := Cf.ch_ok.1 hc
  refine Cf.ch_ok.2 ⟨hk.1, hk.2.1, hk.2.2.1, hk.2.2.2.1, ?_⟩
  show Cf.out h 1 10000 = false
  simp only [Cf.out, Bool.or_eq_false_iff, ltB_false]; omega
theorem cnt_succ {l : List D} {j : Nat} (h : j < l.length) (L : Int) : cnt l (j + 1) L = cnt l j L + if lbS (l.getD j .Z) = L then 1 else 0 := by
  have e : l.getD j .Z = l[j] := by rw [List.getD_eq_getElem?_getD, List.getElem?_eq_getElem h]; rfl
  rw [cnt, cnt, List.take_add_one, List.getElem?_eq_getElem h, List.filter_append, List.length_append, e]
  by_cases hL : lbS l[j] = L
  · rw [if_pos hL]; simp [hL]
  · rw [if_neg hL]; simp [hL]
theorem cnt_le (l : List D) (j : Nat) (L : Int) : cnt l j L ≤ j := by
  have := List.length_filter_le (fun y => lbS y == L) (l.take j)
  rw [List.length_take] at this
  rw [cnt]; omega
theorem take_succ_filter {F : List D} {p : D → Bool} {j : Nat} (h : j < F.length) : (F.take (j + 1)).filter p = (F.take j).filter p ++ if p (F.getD j .Z) = true then [F.getD j .Z] else [] := kp_succ h
theorem ltB_yng (now hor : Int) (x : D) : ltB now (IntKind.u64.wrap ((x.nth 2).int + hor)) = yng now hor x := by
  rw [Bool.eq_iff_iff]
  simp only [yng, ltB_true, Bool.not_eq_true', leB_false]
def horK (b : Int) : Int := IntKind.u64.wrap (IntKind.i64.wrap (1 + Cf.modI b 6))
theorem horK_range (b : Int) : 1 ≤ horK b ∧ horK b ≤ 6 := by
  have := Cf.modI_range (a := b) (n := 6) (by decide) (by decide)
  rw [horK, wrap_i64 (by omega) (by omega), wrap_u64 (by omega) (by omega)]; omega
def cfgH (a b : Int) : D := D.puts Cf.configS (Cf.cfgD (Cf.cfgK a)) [.fld 3] (.I (horK b))
theorem cfgH_ok (a b : Int) : Cf.chE (cfgH a b) = 0 := by
  have h1 := Cf.cfgK_range a
  have h2 := horK_range b
  exact chE_hor (Cf.cfg_right h1.1 h1.2) h2.1 (by omega)
theorem cfgH_hor (a b : Int) : ((cfgH a b).nth 3).int = horK b := rfl
def sKeeps : Sum := ⟨[i64, i64, .slice i64], fun _ => none, fun _ => .dat .bool (.B true)⟩
def cKp : Ctx := ⟨tabM, refsT, [(21, Cf.sCfg), (25, Cf.sMod), (22, sMade), (26, sListT), (27, sGetT), (28, sSC), (29, Rg.sSame), (10, sTrueT)], [], keep, mpsT⟩
set_option maxHeartbeats 2000000 in
theorem keeps_fun : FunOK cKp 200 Try.f5 sKeeps := fun a ha b hb n hn _ => by
  have hc := cfgH_ok a.int b.int
  have hmd : mdN n.list ≤ 30 := Nat.min_le_right ..
  have I := inv_mdR hc n.list hmd
  have H := hist_mdR hc n.list hmd
  obtain ⟨X, hX⟩ : ∃ X, X = mdR (cfgH a.int b.int) n.list (mdN n.list) := ⟨_, rfl⟩
  rw [← hX, cfgH_hor] at H
  rw [← hX] at I
  have hl := I.len
  refine ⟨hc, fun h1 => absurd h1 ?_, fun h1 => ?_⟩
  · show ¬ (!true || stE (mdR (cfgH a.int b.int) n.list (mdN n.list)).1 != 0 || ((mdR (cfgH a.int b.int) n.list (mdN n.list)).1.nth 1).int != IntKind.u64.wrap ((mdR (cfgH a.int b.int) n.list (mdN n.list)).2.length : Int)) = true
    rw [← hX, I.ok, H.arr, wrap_u64 (by omega) (by omega)]; simp
  clear h1
  refine ⟨{ i : Nat // i ≤ X.2.length }, 4, fun i => ([(14, .dat i64 (.I i.1)), (13, .own 3 storedS), (11, .dat (.slice storedS) (.L (listT X.1))), (9, .dat (.slice storedS) (.L X.2)), (8, .ptr 1 storeS [] storeS), (7, .ptr 0 Cf.configS [] Cf.configS)], [(3, .grow storedS ((X.2.take i.1).filter (yng (X.1.nth 2).int (horK b.int)))), (1, .box storeS (.dat storeS X.1)), (0, .box Cf.configS (.dat Cf.configS (cfgH a.int b.int)))]), fun i => X.2.length - i.1,
    ⟨0, by omega⟩, ⟨[(3, 2)], rfl, ⟨rfl, rfl, slotD ?_, slotD ?_, rfl, rfl, trivial⟩, ⟨rfl, bx ?_, rfl, trivial⟩⟩, ?_⟩
  · rw [hX]; rfl
  · rw [hX]; rfl
  · rw [hX]; rfl
  intro x
  obtain ⟨i, hi⟩ := x
  have hi30 : X.2.length ≤ 30 := by omega
  refine ⟨fun h1 => ?_, fun h1 => ?_⟩
  · have hk : i < X.2.length := ltN h1
    clear h1
    refine ⟨ix hk, fun h2 => absurd h2 ?_, fun h2 => ?_⟩
    · show ¬ (keyO (X.2.getD i .Z) != IntKind.u64.wrap (IntKind.i64.wrap ((i : Int) + 1))) = true
      rw [H.key i hk, wrap_i64 (by omega) (by omega), wrap_u64 (by omega) (by omega)]; simp
    clear h2
    refine ⟨{ j : Nat // j ≤ i }, 4, fun j => ([(16, .dat i64 (.I j.1)), (15, .dat u64 (.I (1 + cnt X.2 j.1 (lbS (X.2.getD i .Z)) : Int))), (14, .dat i64 (.I i)), (13, .own 3 storedS), (11, .dat (.slice storedS) (.L (listT X.1))), (9, .dat (.slice storedS) (.L X.2)), (8, .ptr 1 storeS [] storeS), (7, .ptr 0 Cf.configS [] Cf.configS)], [(3, .grow storedS ((X.2.take i).filter (yng (X.1.nth 2).int (horK b.int)))), (1, .box storeS (.dat storeS X.1)), (0, .box Cf.configS (.dat Cf.configS (cfgH a.int b.int)))]), fun j => i - j.1,
      ⟨0, by omega⟩, ⟨[], rfl, ⟨rfl, slot ?_, rfl, rfl, rfl, rfl, rfl, rfl, trivial⟩, ⟨rfl, rfl, rfl, trivial⟩⟩, ?_⟩
    · show (1 : Int) = 1 + ((cnt X.2 0 (lbS (X.2.getD i .Z)) : Nat) : Int)
      have := cnt_le X.2 0 (lbS (X.2.getD i .Z))
      omega
    intro x
    obtain ⟨j, hj⟩ := x
    have hcj := cnt_le X.2 j (lbS (X.2.getD i .Z))
    refine ⟨fun h1 => ?_, fun h1 => ?_⟩
    · have hji : j < i := ltN h1
      have hjl : j < X.2.length := by omega
      clear h1
      have ec := cnt_succ hjl (lbS (X.2.getD i .Z))
      refine ⟨ix hjl, ix hk, by kernel_rfl, fun h2 => ⟨⟨j + 1, hji⟩, ⟨[], rfl, ⟨slot (i64_1 (n := j) (by omega)), slot ?_, rfl, rfl, rfl, rfl, rfl, rfl, trivial⟩, ⟨rfl, rfl, rfl, trivial⟩⟩, stepLt hji⟩, fun h2 => ⟨⟨j + 1, hji⟩, ⟨[], rfl, ⟨slot (i64_1 (n := j) (by omega)), slot ?_, rfl, rfl, rfl, rfl, rfl, rfl, trivial⟩, ⟨rfl, rfl, rfl, trivial⟩⟩, stepLt hji⟩⟩
      all_goals replace h2 : (lbS (X.2.getD j .Z) == lbS (X.2.getD i .Z)) = _ := h2
      · show IntKind.u64.wrap (1 + ((cnt X.2 j (lbS (X.2.getD i .Z)) : Nat) : Int) + 1) = 1 + ((cnt X.2 (j + 1) (lbS (X.2.getD i .Z)) : Nat) : Int)
        rw [if_pos (beq_iff_eq.1 h2)] at ec
        rw [ec, wrap_u64 (by omega) (by omega)]; omega
      · show 1 + ((cnt X.2 j (lbS (X.2.getD i .Z)) : Nat) : Int) = 1 + ((cnt X.2 (j + 1) (lbS (X.2.getD i .Z)) : Nat) : Int)
        rw [if_neg (beq_eq_false_iff_ne.1 h2)] at ec
        rw [ec]; omega
    · have hje : j = i := geN hj h1
      clear h1
      have hg := hist_get H I.ok hk
      have hix := ix hk
      have et := take_succ_filter (p := yng (X.1.nth 2).int (horK b.int)) hk
      have hY := ltB_yng (X.1.nth 2).int (horK b.int) (X.2.getD i .Z)
      refine ⟨hix, fun h2 => absurd h2 ?_, fun h2 => ⟨hix, by kernel_rfl, hix, by kernel_rfl, fun h3 => ⟨hix.1, hix.2⟩, by kernel_rfl, fun h3 => absurd h3 ?_, fun h3 => ⟨fun h4 => ⟨hix, ?_, ⟨i + 1, hk⟩, ⟨[(3, 85)], rfl, ⟨slot (i64_1 (n := i) (by omega)), rfl, rfl, rfl, rfl, rfl, trivial⟩, ⟨gro ?_, rfl, rfl, trivial⟩⟩, stepLt hk⟩, fun h4 => ⟨⟨i + 1, hk⟩, ⟨[], rfl, ⟨slot (i64_1 (n := i) (by omega)), rfl, rfl, rfl, rfl, rfl, trivial⟩, ⟨gro ?_, rfl, rfl, trivial⟩⟩, stepLt hk⟩⟩⟩⟩
      · show ¬ (noS (X.2.getD i .Z) != 1 + ((cnt X.2 j (lbS (X.2.getD i .Z)) : Nat) : Int)) = true
        rw [H.no i hk, hje]; simp
      · show ¬ (!ltB (X.1.nth 2).int (IntKind.u64.wrap (((X.2.getD i .Z).nth 2).int + horK b.int)) == (getTE X.1 ((X.2.getD i .Z).nth 0) == 0) || ltB (X.1.nth 2).int (IntKind.u64.wrap (((X.2.getD i .Z).nth 2).int + horK b.int)) && !eqD storedS (getT X.1 ((X.2.getD i .Z).nth 0)) (X.2.getD i .Z)) = true
        rw [hY]
        cases hy : yng (X.1.nth 2).int (horK b.int) (X.2.getD i .Z) with
        | true =>
          have := hg.1 hy
          rw [this.1, this.2, eqStored]; decide
        | false =>
          have := hg.2 hy
          have e0 : (getTE X.1 ((X.2.getD i .Z).nth 0) == 0) = false := by simpa using this
          rw [e0]; simp
      · have := List.length_filter_le (yng (X.1.nth 2).int (horK b.int)) (X.2.take i)
        rw [List.length_take] at this
        show ((X.2.take i).filter (yng (X.1.nth 2).int (horK b.int))).length + 1 ≤ 1073741824
        omega
      · replace h4 : ltB (X.1.nth 2).int (IntKind.u64.wrap (((X.2.getD i .Z).nth 2).int + horK b.int)) = true := h4
        rw [hY] at h4
        rw [if_pos h4] at et
        exact et.symm
      · replace h4 : ltB (X.1.nth 2).int (IntKind.u64.wrap (((X.2.getD i .Z).nth 2).int + horK b.int)) = false := h4
        rw [hY] at h4
        rw [if_neg (by rw [h4]; decide), List.append_nil] at et
        exact et.symm
  · have he : i = X.2.length := geN hi h1
    have hlist : listT X.1 = mrg X.1 := (listT_ok I.ok).symm
    refine ⟨by show GoodL (listT X.1); rw [hlist]; exact hist_good H I hmd, Bears.bool ?_⟩
    show (true && sameB (D.L (listT X.1)) (D.L ((X.2.take i).filter (yng (X.1.nth 2).int (horK b.int)))) && true) = true
    rw [hlist, H.mrgE, he, List.take_length, sameB_rfl]; rfl
theorem keeps_ok : SumOK Try.prog 5 sKeeps := sumOK_of_vc (c := cKp) (CtxOK.of tabMOK refsTOK (.cons Cf.cfg_ok (.cons Cf.mod_ok (.cons made_ok (.cons list_ok (.cons get_ok (.cons sc_ok (.cons Rg.same_ok (.cons awake_ok .nil)))))))) FunsOK.nil mpsTOK) mixed Try.func5 rfl (by decide) @keeps_fun
end Go.Proofs.Ytelemmagiagohaa
