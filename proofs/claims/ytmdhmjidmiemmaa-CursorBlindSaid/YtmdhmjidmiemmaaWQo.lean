/- Cursors: stores that are made. -/
import Derived.Test.YtmdhmjidmiemmaaWQj
import Derived.Test.YtmdhmjidmiemmaaWTr
namespace Go.Proofs.Ytmdhmjidmiemmaa
open Go Go.Vm Rg
set_option linter.unusedSimpArgs false
set_option linter.unusedVariables false
set_option maxRecDepth 10000
def plM (k : Int) (s : D) : Nat := ((IntKind.i64.wrap (k.tdiv 5)).tmod (nG s)).toNat
def evM (k : Int) (s : D) : D := .L [.I (labG s (plM k s)), .I (k.tmod 26), .I k]
def mkQ (k : Int) (x : D × List D) : D × List D :=
  if (k.tmod 5 == 0) = true then (if tickE x.1 = 0 then (tickT x.1, x.2 ++ [tickT x.1]) else x)
  else if 0 < nG x.1 then (if putTE x.1 (evM k x.1) = 0 then (putT x.1 (evM k x.1), x.2 ++ [putT x.1 (evM k x.1)]) else x)
  else (x.1, x.2 ++ [x.1])
def kQ (n : List D) (i : Nat) : Int := Cf.modI (n.getD i .Z).int 1073741824
def mdQ (c : D) (n : List D) : Nat → D × List D
  | 0 => (newT c, [newT c])
  | i + 1 => mkQ (kQ n i) (mdQ c n i)
def mdL (n : Int) (ns : List D) : List D := (mdQ (Cf.cfgD (Cf.cfgK n)) ns (min ns.length 20)).2
def sMadeQ : Sum := ⟨[i64, .slice i64], fun _ => none, fun
  | [n, ns] => .dat (.slice storeS) (.L (mdL n.int ns.list))
  | _ => .und⟩
def tabV : List (Nat × Sh) := (24, .slice storeS) :: tabQ
theorem tabVOK : tabB Try.prog tabV = true := by kernel_rfl
def cMdQ : Ctx := ⟨tabV, refsQ, [(41, Cf.sCfg), (40, sNewT), (11, Cf.sMod), (16, sTick), (14, sPutT)], [], keep, mpsT⟩
theorem mdQ_len {c : D} {n : List D} : ∀ {i : Nat}, 1 ≤ (mdQ c n i).2.length ∧ (mdQ c n i).2.length ≤ i + 1
  | 0 => by simp [mdQ]
  | i + 1 => by
    have := mdQ_len (c := c) (n := n) (i := i)
    rw [mdQ, mkQ]
    split
    · split
      · simp only [List.length_append, List.length_singleton]; omega
      · omega
    split
    · split
      · simp only [List.length_append, List.length_singleton]; omega
      · omega
    · simp only [List.length_append, List.length_singleton]; omega
theorem mkQ_t {k : Int} {x : D × List D} (h : (k.tmod 5 == 0) = true) (h2 : tickE x.1 = 0) : mkQ k x = (tickT x.1, x.2 ++ [tickT x.1]) := by rw [mkQ, if_pos h, if_pos h2]
theorem mkQ_t' {k : Int} {x : D × List D} (h : (k.tmod 5 == 0) = true) (h2 : tickE x.1 ≠ 0) : mkQ k x = x := by rw [mkQ, if_pos h, if_neg h2]
theorem mkQ_p {k : Int} {x : D × List D} (h : (k.tmod 5 == 0) = false) (h2 : 0 < nG x.1) (h3 : putTE x.1 (evM k x.1) = 0) : mkQ k x = (putT x.1 (evM k x.1), x.2 ++ [putT x.1 (evM k x.1)]) := by rw [mkQ, if_neg (by simp [h]), if_pos h2, if_pos h3]
theorem mkQ_p' {k : Int} {x : D × List D} (h : (k.tmod 5 == 0) = false) (h2 : 0 < nG x.1) (h3 : putTE x.1 (evM k x.1) ≠ 0) : mkQ k x = x := by rw [mkQ, if_neg (by simp [h]), if_pos h2, if_neg h3]
theorem mkQ_n {k : Int} {x : D × List D} (h : (k.tmod 5 == 0) = false) (h2 : ¬ 0 < nG x.1) : mkQ k x = (x.1, x.2 ++ [x.1]) := by rw [mkQ, if_neg (by simp [h]), if_neg h2]
theorem plM_in {k : Int} {n : Nat} (h1 : 0 ≤ k) (h2 : k < 1073741824) (hn : (0 : Int) < n) : 0 ≤ (IntKind.i64.wrap (k.tdiv 5)).tmod n ∧ (IntKind.i64.wrap (k.tdiv 5)).tmod n < n := by
  have e : k.tdiv 5 = k / 5 := Int.tdiv_eq_ediv_of_nonneg h1
  rw [e, wrap_i64 (by omega) (by omega), Int.tmod_eq_emod_of_nonneg (by omega)]
  exact ⟨Int.emod_nonneg _ (by omega), Int.emod_lt_of_pos _ hn⟩
theorem madeQ_fun : FunOK cMdQ 300 Try.f9 sMadeQ := fun n hn ns hns _ => by
  have hK := Cf.cfgK_range n.int
  have hc : Cf.chE (Cf.cfgD (Cf.cfgK n.int)) = 0 := Cf.cfg_right hK.1 hK.2
  refine ⟨fun h1 => absurd hc (bneT h1), fun h1 => ?_⟩
  refine ⟨{ i : Nat // i ≤ min ns.list.length 20 }, 4, fun i => ([(8, .dat i64 (.I i.1)), (7, .own 3 storeS), (5, .ptr 1 storeS [] storeS), (1, .dat (.slice i64) ns)],
    [(3, .grow storeS (mdQ (Cf.cfgD (Cf.cfgK n.int)) ns.list i.1).2), (1, .box storeS (.dat storeS (mdQ (Cf.cfgD (Cf.cfgK n.int)) ns.list i.1).1))]), fun i => min ns.list.length 20 - i.1,
    ⟨0, Nat.zero_le _⟩, ⟨[(3, 2)], rfl, ⟨rfl, rfl, rfl, rfl, trivial⟩, ⟨rfl, rfl, trivial⟩⟩, ?_⟩
  intro z
  obtain ⟨i, hi⟩ := z
  obtain ⟨x, hx⟩ : ∃ x, x = mdQ (Cf.cfgD (Cf.cfgK n.int)) ns.list i := ⟨_, rfl⟩
  simp only [← hx]
  have hxl := mdQ_len (c := Cf.cfgD (Cf.cfgK n.int)) (n := ns.list) (i := i)
  rw [← hx] at hxl
  have hs : ∀ y, mkQ (kQ ns.list i) x = y → y = mdQ (Cf.cfgD (Cf.cfgK n.int)) ns.list (i + 1) := fun y h => by rw [mdQ, ← hx, h]
  refine ⟨fun h1 => ?_, fun h1 => ?_⟩
  · replace h1 : (ltB (i : Int) (ns.list.length : Int) && ltB (i : Int) 20) = true := h1
    simp only [Bool.and_eq_true, ltB_true] at h1
    have hlt : i < min ns.list.length 20 := by omega
    have hk := Cf.modI_range (a := (ns.list.getD i .Z).int) (n := 1073741824) (by omega) (by omega)
    refine ⟨⟨Int.natCast_nonneg i, h1.1⟩, ne0 rfl, fun h2 => ⟨fun h3 => ⟨?_, ?_⟩, fun h3 => ?_⟩, fun h2 => ⟨fun h3 => ⟨ne0 rfl, ?_, ?_, ne0 rfl, by kernel_rfl, fun h4 => ⟨?_, ?_⟩, fun h4 => ?_⟩, fun h3 => ⟨fun h4 => ⟨?_, ?_⟩, fun h4 => (by cases h4)⟩⟩⟩
    all_goals replace h2 : ((kQ ns.list i).tmod 5 == 0) = _ := h2
    · show x.2.length + 1 ≤ 1073741824
      omega
    · have h3 : tickE x.1 = 0 := by have h3 : (tickE x.1 == 0) = true := h3; simpa using h3
      have e := hs _ (mkQ_t h2 h3)
      exact ⟨⟨i + 1, hlt⟩, ⟨[(3, 6)], rfl, ⟨slot (i64_1 (n := i) (by omega)), rfl, rfl, rfl, trivial⟩, ⟨gro (congrArg Prod.snd e), bx (congrArg Prod.fst e), trivial⟩⟩, stepLt hlt⟩
    · have h3 : tickE x.1 ≠ 0 := by have h3 : (tickE x.1 == 0) = false := h3; simpa using h3
      have e := hs _ (mkQ_t' h2 h3)
      exact ⟨⟨i + 1, hlt⟩, ⟨[], rfl, ⟨slot (i64_1 (n := i) (by omega)), rfl, rfl, rfl, trivial⟩, ⟨gro (congrArg Prod.snd e), bx (congrArg Prod.fst e), trivial⟩⟩, stepLt hlt⟩
    · replace h3 : ltB 0 (nG x.1 : Int) = true := h3
      rw [ltB_true] at h3
      show (nG x.1 : Int) ≠ 0
      omega
    · replace h3 : ltB 0 (nG x.1 : Int) = true := h3
      rw [ltB_true] at h3
      show 0 ≤ (IntKind.i64.wrap ((kQ ns.list i).tdiv 5)).tmod (nG x.1) ∧ (IntKind.i64.wrap ((kQ ns.list i).tdiv 5)).tmod (nG x.1) < (nG x.1 : Int)
      exact plM_in hk.1 hk.2 h3
    · show x.2.length + 1 ≤ 1073741824
      omega
    · have h3 : 0 < nG x.1 := by have h3 : ltB 0 (nG x.1 : Int) = true := h3; rw [ltB_true] at h3; omega
      have h4 : putTE x.1 (evM (kQ ns.list i) x.1) = 0 := by have h4 : (putTE x.1 (evM (kQ ns.list i) x.1) == 0) = true := h4; simpa using h4
      have e := hs _ (mkQ_p h2 h3 h4)
      exact ⟨⟨i + 1, hlt⟩, ⟨[(3, 52)], rfl, ⟨slot (i64_1 (n := i) (by omega)), rfl, rfl, rfl, trivial⟩, ⟨gro (congrArg Prod.snd e), bx (congrArg Prod.fst e), trivial⟩⟩, stepLt hlt⟩
    · have h3 : 0 < nG x.1 := by have h3 : ltB 0 (nG x.1 : Int) = true := h3; rw [ltB_true] at h3; omega
      have h4 : putTE x.1 (evM (kQ ns.list i) x.1) ≠ 0 := by have h4 : (putTE x.1 (evM (kQ ns.list i) x.1) == 0) = false := h4; simpa using h4
      have e := hs _ (mkQ_p' h2 h3 h4)
      exact ⟨⟨i + 1, hlt⟩, ⟨[], rfl, ⟨slot (i64_1 (n := i) (by omega)), rfl, rfl, rfl, trivial⟩, ⟨gro (congrArg Prod.snd e), bx (congrArg Prod.fst e), trivial⟩⟩, stepLt hlt⟩
    · show x.2.length + 1 ≤ 1073741824
      omega
    · have h3 : ¬ 0 < nG x.1 := by have h3 : ltB 0 (nG x.1 : Int) = false := h3; rw [ltB_false] at h3; omega
      have e := hs _ (mkQ_n h2 h3)
      have e1 : x.1 = (mdQ (Cf.cfgD (Cf.cfgK n.int)) ns.list (i + 1)).1 := by rw [← e]
      exact ⟨⟨i + 1, hlt⟩, ⟨[(3, 6)], rfl, ⟨slot (i64_1 (n := i) (by omega)), rfl, rfl, rfl, trivial⟩, ⟨gro (congrArg Prod.snd e), bx e1, trivial⟩⟩, stepLt hlt⟩
  · replace h1 : (ltB (i : Int) (ns.list.length : Int) && ltB (i : Int) 20) = false := h1
    simp only [Bool.and_eq_false_iff, ltB_false] at h1
    have e : i = min ns.list.length 20 := by omega
    refine Bears.same (sameQ ?_)
    show D.L x.2 = D.L (mdL n.int ns.list)
    rw [mdL, ← e, hx]
theorem madeQ_ok : SumOK Try.prog 9 sMadeQ := sumOK_of_vc (c := cMdQ) (CtxOK.of tabVOK refsQOK (.cons Cf.cfg_ok (.cons newRT_ok (.cons Cf.mod_ok (.cons tickTR_ok (.cons putTR_ok .nil))))) FunsOK.nil mpsTOK) mixed Try.func9 rfl (by decide) @madeQ_fun
end Go.Proofs.Ytmdhmjidmiemmaa
