/- Stores: labels and events that are made of numbers, stream.Check. Stores: what is made of numbers. Stores in plain Lean: what was put, and what is left of it. Stores in plain Lean: getting what was put. Stores in plain Lean: rings that differ in their events' arrival alone. Stores in plain Lean: a store into which only the events below a label are put. -/
import Derived.Test.YtpfpgjkbnjnjnaaWCp
import Derived.Test.YtpfpgjkbnjnjnaaWTi
import Derived.Test.YtpfpgjkbnjnjnaaWTq
namespace Go.Proofs.Ytpfpgjkbnjnjnaa.Tw
open Go Go.Vm Rg
set_option linter.unusedSimpArgs false
set_option linter.unusedVariables false
set_option maxRecDepth 10000
def labK (n : Int) : Int := if ((Cf.modI n 1099511627776).tmod 16 == 15) = true then IntKind.u64.wrap (IntKind.u64.wrap (IntKind.i64.wrap ((Cf.modI n 1099511627776).tdiv 16)) * 11400714819323198485)
  else IntKind.u64.wrap (bitsOp .and .i64 ((Cf.modI n 1099511627776).tmod 16) ((IntKind.i64.wrap ((Cf.modI n 1099511627776).tdiv 16)).tmod 16))
def sLabK : Sum := ⟨[i64], fun _ => none, fun
  | [n] => .dat u64 (.I (labK n.int))
  | _ => .und⟩
def cLb : Ctx := ⟨tabT, refsT, [(20, Cf.sMod), (25, Cf.sLabels)], [], keep, mpsT⟩
def vals4 : List D := [.I (-9223372036854775808), .I 9223372036854775807, .I 0, .I 1099511627776]
def valK (K : Int) : Int := if ((IntKind.i64.wrap (K.tdiv 86016)).tmod 9 == 0) = true then (vals4.getD ((IntKind.i64.wrap (K.tdiv 774144)).tmod 4).toNat .Z).int else IntKind.i64.wrap ((IntKind.i64.wrap (K.tdiv 4096)).tmod 21 - 10)
def evK (n : Int) : D := .L [.I (labK ((Cf.modI n 1099511627776).tmod 256)), .I ((IntKind.i64.wrap ((Cf.modI n 1099511627776).tdiv 256)).tmod 4), .I (valK (Cf.modI n 1099511627776))]
def sEvK : Sum := ⟨[i64], fun _ => none, fun
  | [n] => .dat eventS (evK n.int)
  | _ => .und⟩
def cEv : Ctx := ⟨tabT, refsT, [(20, Cf.sMod)], [], keep, mpsT⟩
theorem tabEOK : tabB Try.prog (tabT) = true := by kernel_rfl
theorem evK_evC (n : Int) : evC (evK n) = 0 := by
  have hK := Cf.cfgK_range n
  have hK2 : 0 ≤ Cf.modI n 1099511627776 := hK.1
  have hK3 : Cf.modI n 1099511627776 < 1099511627776 := hK.2
  have h2 : 0 ≤ (Cf.modI n 1099511627776).tdiv 256 := Int.tdiv_nonneg hK2 (by decide)
  have h3 : (Cf.modI n 1099511627776).tdiv 256 ≤ Cf.modI n 1099511627776 := Int.tdiv_le_self _ hK2
  have h4 := Int.tmod_nonneg 4 h2
  have h5 := Int.tmod_lt_of_pos ((Cf.modI n 1099511627776).tdiv 256) (show (0 : Int) < 4 by decide)
  rw [evC, if_neg]
  show ¬ (ltB ((IntKind.i64.wrap ((Cf.modI n 1099511627776).tdiv 256)).tmod 4) 0 || leB 26 ((IntKind.i64.wrap ((Cf.modI n 1099511627776).tdiv 256)).tmod 4)) = true
  rw [wrap_i64 (by omega) (by omega)]
  simp only [Bool.or_eq_true, ltB_true, leB_true]; omega
/-! ### stream.Check of a right list -/
def cntB (n : Int) : Bool := leB 1 n && leB n 1099511627776
def sCnt : Sum := ⟨[u64], fun _ => none, fun
  | [n] => .dat .bool (.B (cntB n.int))
  | _ => .und⟩
def noS (x : D) : Int := ((x.nth 0).nth 1).int
def lbS (x : D) : Int := ((x.nth 0).nth 0).int
structure GoodL (l : List D) : Prop where
  len : l.length ≤ 1000
  each : ∀ i, i < l.length → 0 ≤ ((l.getD i .Z).nth 3).int ∧ ((l.getD i .Z).nth 3).int ≤ 25 ∧ cntB (noS (l.getD i .Z)) = true ∧ cntB (keyO (l.getD i .Z)) = true ∧ ((l.getD i .Z).nth 2).int ≤ 1099511627776
  nos : ∀ i j, i < j → j < l.length → lbS (l.getD i .Z) = lbS (l.getD j .Z) → noS (l.getD i .Z) < noS (l.getD j .Z)
  adj : ∀ i, i + 1 < l.length → keyO (l.getD i .Z) < keyO (l.getD (i + 1) .Z) ∧ ((l.getD i .Z).nth 2).int ≤ ((l.getD (i + 1) .Z).nth 2).int
def sSC : Sum := ⟨[.slice storedS], fun
  | [l] => some (GoodL l.list)
  | _ => none, fun
  | [_] => .tup [.dat i64 (.I 0), .dat i64 (.I 0)]
  | _ => .und⟩
def mpL (l : List D) : Nat → List (D × D)
  | 0 => []
  | i + 1 => mPut (.I (lbS (l.getD i .Z))) (.I (noS (l.getD i .Z))) (mpL l i)
theorem mpL_get {l : List D} {L : Int} : ∀ {i : Nat}, (mGet (D0 u64) L (mpL l i)).int = 0 ∨ ∃ j, j < i ∧ lbS (l.getD j .Z) = L ∧ (mGet (D0 u64) L (mpL l i)).int = noS (l.getD j .Z)
  | 0 => .inl rfl
  | i + 1 => by
    rw [mpL, Cf.mGet_mPut]
    split
    · rename_i h
      exact .inr ⟨i, Nat.lt_succ_self i, h, rfl⟩
    · rcases mpL_get (l := l) (L := L) (i := i) with h | ⟨j, h1, h2, h3⟩
      · exact .inl h
      · exact .inr ⟨j, by omega, h2, h3⟩
def mpsC : List (Nat × MI) := mpsT
def cSC : Ctx := ⟨tabT, refsT, [], [], keep, mpsC⟩
theorem mpsCOK : mapsB Try.prog mpsC = true := by kernel_rfl
end Go.Proofs.Ytpfpgjkbnjnjnaa.Tw

namespace Go.Proofs.Ytpfpgjkbnjnjnaa.Tw
open Go Go.Vm Rg
set_option linter.unusedSimpArgs false
set_option linter.unusedVariables false
set_option maxRecDepth 10000
/-! ### A new store is right -/
theorem new_chk {l z : Int} (h : (ltB z 1 || ltB 64 z) = false) : chk (newR l z) = 0 ∧ evs (newR l z) = [] := by
  have e : newR l z = .L [.I l, .I z, .I 1, .I 1, D0 (.arr 64 storedS)] := if_neg (by rw [h]; decide)
  have hc : cap (newR l z) = 0 := by rw [e]; rfl
  simp only [Bool.or_eq_false_iff, ltB_false] at h
  refine ⟨chk_ok.2 ⟨?_, fun k hk => by omega, fun j hj _ => ?_⟩, by rw [evs, hc]; rfl⟩
  · rw [e]
    show (ltB z 1 || ltB 64 z || ltB 1 1 || ltB 1 1 || ltB 1099511627777 1 || ltB (IntKind.u64.wrap z) (IntKind.u64.wrap (1 - 1))) = false
    rw [wrap_u64 (by omega) (by omega)]
    simp only [Bool.or_eq_false_iff, ltB_false]
    refine ⟨⟨⟨⟨⟨by omega, by omega⟩, by omega⟩, by omega⟩, by omega⟩, ?_⟩
    show IntKind.u64.wrap (1 - 1) ≤ z
    rw [show (1 : Int) - 1 = 0 from rfl, wrap_u64 (by omega) (by omega)]; omega
  · rw [nz, e]
    show (!eqD storedS ((D0 (.arr 64 storedS)).nth j) (D0 storedS)) = false
    have : (D0 (.arr 64 storedS)).nth j = D0 storedS := rfl
    rw [this, eqStored]; rfl
theorem nt_rgs {c : D} (h : Cf.chE c = 0) : rgs (newT c) = newRgs c (Cf.nC c) ∧ ((newT c).nth 1).int = 0 ∧ ((newT c).nth 2).int = 0 ∧ ((newT c).nth 3).int = (c.nth 3).int := by
  rw [← newT_ok h]; exact ⟨rfl, rfl, rfl, rfl⟩
theorem nt_at {c : D} (h : Cf.chE c = 0) {i : Nat} (hi : i < Cf.nC c) : rgAt (newT c) i = newR (Cf.labAt c i) (Cf.sizeAt c i) := by
  rw [rgAt, (nt_rgs h).1, newRgs, List.getD_eq_getElem?_getD, List.getElem?_map, List.getElem?_range hi]; rfl
theorem nt_nG {c : D} (h : Cf.chE c = 0) : nG (newT c) = Cf.nC c := by rw [nG, (nt_rgs h).1, newRgs_len]
theorem nt_mrg {c : D} (h : Cf.chE c = 0) : mrg (newT c) = [] := by
  have e : flat (lsts (newT c)) = [] := by
    rw [flat, List.flatten_eq_nil_iff]
    intro l hl
    rw [lsts, (nt_rgs h).1] at hl
    obtain ⟨r, hr, rfl⟩ := List.mem_map.1 hl
    obtain ⟨i, hi, rfl⟩ := List.mem_map.1 hr
    exact (new_chk (nw_size h (by simpa using hi))).2
  rw [mrg, e]; rfl
theorem nt_right {c : D} (h : Cf.chE c = 0) : stE (newT c) = 0 := by
  obtain ⟨h1, h2, h3, h4⟩ := nt_rgs h
  have hc := Cf.ch_ok.1 h
  refine st_zero ⟨by rw [nt_nG h]; exact nw_len h, fun i hi => ?_⟩ ?_ ?_ ?_
  · rw [nt_nG h] at hi
    rw [nt_at h hi]; exact (new_chk (nw_size h hi)).1
  · have hl : ∀ i, i < Cf.nC c → labG (newT c) i = Cf.labAt c i := fun i hi => by
      have hz : (ltB (Cf.sizeAt c i) 1 || ltB 64 (Cf.sizeAt c i)) = false := nw_size h hi
      rw [labG, nt_at h hi, newR, if_neg (by rw [hz]; decide)]; rfl
    rw [dupG, nt_nG h]
    refine anyR_no fun i hi => anyR_no fun k hk => ?_
    rw [hl i hi, hl k (by omega)]
    have h5 := hc.2.1 i hi
    apply Classical.byContradiction
    intro hne
    have hb : Cf.clBad (Cf.clsAt c i) = false := by
      cases hb : Cf.clBad (Cf.clsAt c i) with
      | false => rfl
      | true => rw [Cf.clE_2 hb] at h5; cases h5
    rw [Cf.clE_8 hb (anyR_at hk (Bool.not_eq_false _ ▸ hne))] at h5; cases h5
  · have h6 : Cf.horBad c = false := hc.2.2.2.2
    simp only [Cf.horBad, Cf.out, Bool.or_eq_false_iff, ltB_false] at h6
    simp only [rngG, h2, h3, h4, Bool.or_eq_false_iff, ltB_false]; omega
  · refine nu_0 ?_ ?_ ?_ <;> rw [nt_mrg h] <;> rfl
/-! ### made -/
def kOf (n : List D) (i : Nat) : Int := Cf.modI (n.getD i .Z).int 1099511627776
def mkR (k : Int) (x : D × List D) : D × List D :=
  if (k.tmod 5 == 0) = true then (tickT x.1, x.2) else if putTE x.1 (evK (IntKind.i64.wrap (k.tdiv 5))) = 0 then (putT x.1 (evK (IntKind.i64.wrap (k.tdiv 5))), x.2 ++ [putX x.1 (evK (IntKind.i64.wrap (k.tdiv 5)))]) else x
def mdR (c : D) (n : List D) : Nat → D × List D
  | 0 => (newT c, [])
  | i + 1 => mkR (kOf n i) (mdR c n i)
def mdN (n : List D) : Nat := min n.length 30
def sMade : Sum := ⟨[Cf.configS, .slice i64], fun
  | [c, _] => some (Cf.chE c = 0)
  | _ => none, fun
  | [c, n] => .tup [.dat storeS (mdR c n.list (mdN n.list)).1, .dat (.slice storedS) (.L (mdR c n.list (mdN n.list)).2), .dat .bool (.B true)]
  | _ => .und⟩
structure InvM (x : D × List D) (i : Nat) : Prop where
  ok : stE x.1 = 0
  nn : 0 ≤ (x.1.nth 1).int ∧ 0 ≤ (x.1.nth 2).int ∧ 0 ≤ (x.1.nth 3).int
  tk : (x.1.nth 2).int ≤ i
  len : x.2.length ≤ i
theorem InvM.tickE {x : D × List D} {i : Nat} (I : InvM x i) (hi : i ≤ 30) : tickE x.1 = 0 := ti_0 I.ok (by
  have := I.tk
  simp only [leB_false]; omega)
theorem inv_tick {x : D × List D} {i : Nat} (I : InvM x i) (hi : i ≤ 30) : InvM (tickT x.1, x.2) (i + 1) := by
  have ht := I.tickE hi
  obtain ⟨h1, h2, h3, h4⟩ := ti_rgs I.nn I.ok ht
  have hn := I.nn
  have hk := I.tk
  have hl := I.len
  have e3 : ((tickT x.1).nth 2).int = (x.1.nth 2).int + 1 := h3
  exact ⟨ti_right I.nn I.ok ht, ⟨by rw [h2]; exact hn.1, by rw [e3]; omega, by rw [h4]; exact hn.2.2⟩, by rw [e3]; omega, by dsimp only; omega⟩
theorem inv_put {x : D × List D} {i : Nat} {e : D} (I : InvM x i) (hp : putTE x.1 e = 0) : InvM (putT x.1 e, x.2 ++ [putX x.1 e]) (i + 1) := by
  obtain ⟨h1, h2, h3, h4⟩ := pu_rgs I.nn I.ok hp
  have hn := I.nn
  have hk := I.tk
  have hl := I.len
  have e2 : ((putT x.1 e).nth 1).int = (x.1.nth 1).int + 1 := h2
  exact ⟨pu_right I.nn I.ok hp, ⟨by rw [e2]; omega, by rw [h3]; exact hn.2.1, by rw [h4]; exact hn.2.2⟩, by rw [h3]; omega, by rw [List.length_append, List.length_singleton]; omega⟩
theorem inv_skip {x : D × List D} {i : Nat} (I : InvM x i) : InvM x (i + 1) := by
  have hk := I.tk
  have hl := I.len
  exact ⟨I.ok, I.nn, by omega, by omega⟩
theorem inv_mkR {x : D × List D} {i : Nat} (I : InvM x i) (hi : i ≤ 30) (k : Int) : InvM (mkR k x) (i + 1) := by
  unfold mkR
  split
  · exact inv_tick I hi
  split
  · rename_i hp; exact inv_put I hp
  · exact inv_skip I
theorem inv_mdR {c : D} (h : Cf.chE c = 0) (n : List D) : ∀ {i : Nat}, i ≤ 30 → InvM (mdR c n i) i
  | 0, _ => by
    obtain ⟨h1, h2, h3, h4⟩ := nt_rgs h
    have hc := (Cf.ch_ok.1 h).2.2.2.2
    simp only [Cf.horBad, Cf.out, Bool.or_eq_false_iff, ltB_false] at hc
    exact ⟨nt_right h, ⟨by show 0 ≤ ((newT c).nth 1).int; omega, by show 0 ≤ ((newT c).nth 2).int; omega, by show 0 ≤ ((newT c).nth 3).int; omega⟩, by show ((newT c).nth 2).int ≤ 0; omega, Nat.le_refl _⟩
  | i + 1, hi => inv_mkR (inv_mdR h n (i := i) (by omega)) (by omega) _
theorem mdN_lt {n : List D} {i : Nat} (h : (ltB (i : Int) (n.length : Int) && ltB (i : Int) 30) = true) : i < mdN n ∧ i < n.length := by
  simp only [Bool.and_eq_true, ltB_true] at h
  rw [mdN]; omega
theorem mdN_ge {n : List D} {i : Nat} (hi : i ≤ mdN n) (h : (ltB (i : Int) (n.length : Int) && ltB (i : Int) 30) = false) : i = mdN n := by
  simp only [Bool.and_eq_false_iff, ltB_false] at h
  rw [mdN] at hi ⊢; omega
def tabM : List (Nat × Sh) := (28, .slice i64) :: tabT
def cMd : Ctx := ⟨tabM, refsT, [(40, sNewT), (20, Cf.sMod), (35, sTick), (50, sPutT), (42, sChk)], [], keep, mpsT⟩
theorem tabMOK : tabB Try.prog tabM = true := by kernel_rfl
end Go.Proofs.Ytpfpgjkbnjnjnaa.Tw

namespace Go.Proofs.Ytpfpgjkbnjnjnaa.Tw
open Go Go.Vm Rg
set_option linter.unusedSimpArgs false
set_option linter.unusedVariables false
set_option maxRecDepth 10000
/-- How many of the first j have the label L. -/
def cnt (l : List D) (j : Nat) (L : Int) : Nat := ((l.take j).filter fun y => lbS y == L).length
theorem cnt_app {l : List D} {x : D} {j : Nat} (h : j ≤ l.length) (L : Int) : cnt (l ++ [x]) j L = cnt l j L := by
  rw [cnt, cnt, List.take_append_of_le_length h]
theorem cnt_last (l : List D) (x : D) (L : Int) : cnt (l ++ [x]) (l.length + 1) L = cnt l l.length L + if lbS x = L then 1 else 0 := by
  have e : (l ++ [x]).take (l.length + 1) = l ++ [x] := List.take_of_length_le (by simp)
  rw [cnt, cnt, e, List.take_length, List.filter_append, List.length_append]
  by_cases h : lbS x = L
  · rw [if_pos h]; simp [h]
  · rw [if_neg h]; simp [h]
structure Hist (x : D × List D) (hor : Int) : Prop where
  horE : (x.1.nth 3).int = hor
  arr : (x.1.nth 1).int = x.2.length
  mrgE : mrg x.1 = x.2.filter (yng (x.1.nth 2).int hor)
  key : ∀ j, j < x.2.length → keyO (x.2.getD j .Z) = j + 1
  tk : ∀ j, j < x.2.length → 0 ≤ tkO (x.2.getD j .Z) ∧ tkO (x.2.getD j .Z) ≤ (x.1.nth 2).int
  kd : ∀ j, j < x.2.length → evC (.L [.Z, (x.2.getD j .Z).nth 3]) = 0
  no : ∀ j, j < x.2.length → noS (x.2.getD j .Z) = 1 + cnt x.2 j (lbS (x.2.getD j .Z))
  lb : ∀ j, j < x.2.length → ∃ g, g < nG x.1 ∧ lbS (x.2.getD j .Z) = labG x.1 g
  nxt : ∀ g, g < nG x.1 → ((rgAt x.1 g).nth 3).int = 1 + cnt x.2 x.2.length (labG x.1 g)
theorem yng_le {now hor : Int} {x : D} (h : yng (now + 1) hor x = true) : yng now hor x = true := by
  simp only [yng, Bool.not_eq_true', leB_false] at h ⊢; omega
theorem getD_snoc_l {l : List D} {x : D} {j : Nat} (h : j < l.length) : (l ++ [x]).getD j .Z = l.getD j .Z := getD_app_l h
theorem getD_snoc_r {l : List D} {x : D} : (l ++ [x]).getD l.length .Z = x := getD_app_r
theorem hist_tick {x : D × List D} {hor : Int} {i : Nat} (H : Hist x hor) (I : InvM x i) (hi : i ≤ 30) : Hist (tickT x.1, x.2) hor := by
  have ht := I.tickE hi
  obtain ⟨h1, h2, h3, h4⟩ := ti_rgs I.nn I.ok ht
  have e3 : ((tickT x.1).nth 2).int = (x.1.nth 2).int + 1 := h3
  refine ⟨by rw [h4]; exact H.horE, by rw [h2]; exact H.arr, ?_, H.key, fun j hj => ?_, H.kd, H.no, fun j hj => ?_, fun g hg => ?_⟩
  · show Go.Proofs.Ytpfpgjkbnjnjnaa.mrg (tickT x.1) = x.2.filter (yng ((tickT x.1).nth 2).int hor)
    rw [ti_mrg I.nn I.ok ht, H.mrgE, List.filter_filter, H.horE, e3, now1]
    refine List.filter_congr fun y _ => ?_
    cases hy : yng ((x.1.nth 2).int + 1) hor y with
    | false => simp
    | true => rw [yng_le hy]; rfl
  · have := H.tk j hj
    show 0 ≤ tkO (x.2.getD j .Z) ∧ tkO (x.2.getD j .Z) ≤ ((tickT x.1).nth 2).int
    rw [e3]; omega
  · obtain ⟨g, hg, hl⟩ := H.lb j hj
    exact ⟨g, by show g < nG (tickT x.1); rw [ti_nG I.nn I.ok ht]; exact hg, by show _ = labG (tickT x.1) g; rw [ti_lab I.nn I.ok ht]; exact hl⟩
  · have hg2 : g < nG x.1 := by have hg : g < nG (tickT x.1) := hg; rw [ti_nG I.nn I.ok ht] at hg; exact hg
    show ((rgAt (tickT x.1) g).nth 3).int = 1 + cnt x.2 x.2.length (labG (tickT x.1) g)
    rw [ti_at I.nn I.ok ht g hg2, tickRg, (evR_0 _ _).2.2.1, ti_lab I.nn I.ok ht]
    exact H.nxt g hg2
theorem hist_put {x : D × List D} {hor : Int} {i : Nat} {e : D} (H : Hist x hor) (I : InvM x i) (hp : putTE x.1 e = 0) : Hist (putT x.1 e, x.2 ++ [putX x.1 e]) hor := by
  obtain ⟨h1, h2, h3, h4⟩ := pu_rgs I.nn I.ok hp
  obtain ⟨p1, p2, p3, p4⟩ := pu_parts I.nn I.ok hp
  obtain ⟨hok, hd, _, _⟩ := st_ok I.ok
  have hc := (cN_lt p2).2.2.2
  have hlab := cI_is hc
  have hrng := st_rng I.ok
  have hn := I.nn
  have eX : putX x.1 e = newE x.1 e := (pu_ok hp).2.1.symm
  have elb : lbS (newE x.1 e) = labG x.1 (cI x.1 (labE e)) := rfl
  have eno : noS (newE x.1 e) = ((rgAt x.1 (cI x.1 (labE e))).nth 3).int := rfl
  rw [eX]
  have hcase : ∀ j, j < (x.2 ++ [newE x.1 e]).length → j < x.2.length ∨ j = x.2.length := fun j hj => by
    rw [List.length_append, List.length_singleton] at hj; omega
  have e2 : ((putT x.1 e).nth 1).int = (x.1.nth 1).int + 1 := h2
  refine ⟨by rw [h4]; exact H.horE, ?_, ?_, fun j hj => ?_, fun j hj => ?_, fun j hj => ?_, fun j hj => ?_, fun j hj => ?_, fun g hg => ?_⟩
  · show ((putT x.1 e).nth 1).int = (x.2 ++ [newE x.1 e]).length
    rw [e2, H.arr, List.length_append]; simp
  · show Go.Proofs.Ytpfpgjkbnjnjnaa.mrg (putT x.1 e) = (x.2 ++ [newE x.1 e]).filter (yng ((putT x.1 e).nth 2).int hor)
    rw [pu_mrg I.nn I.ok hp, H.mrgE, h3, List.filter_append]
    congr 1
    have hy : yng (x.1.nth 2).int hor (newE x.1 e) = true := by
      have et : ((newE x.1 e).nth 2).int = (x.1.nth 2).int := rfl
      have := H.horE
      rw [yng_eq (by rw [et]; omega) (by rw [et]; omega) (by omega) (by omega), et]
      simp only [ltB_true]; omega
    rw [List.filter_cons, if_pos hy]; rfl
  all_goals try rcases hcase j hj with hj' | rfl
  all_goals first | rw [getD_snoc_l hj'] | rw [getD_snoc_r] | skip
  all_goals try dsimp only
  · exact H.key j hj'
  · show (x.1.nth 1).int + 1 = _
    rw [H.arr]
  · have := H.tk j hj'
    rw [h3]; exact this
  · show 0 ≤ (x.1.nth 2).int ∧ (x.1.nth 2).int ≤ ((putT x.1 e).nth 2).int
    rw [h3]; omega
  · exact H.kd j hj'
  · exact p1
  · rw [cnt_app (by omega)]; exact H.no j hj'
  · rw [cnt_app (Nat.le_refl _), eno, elb]; exact H.nxt _ hc
  · obtain ⟨g, hg, hl⟩ := H.lb j hj'
    exact ⟨g, by rw [pu_nG I.nn I.ok hp]; exact hg, by rw [pu_lab I.nn I.ok hp]; exact hl⟩
  · exact ⟨_, by rw [pu_nG I.nn I.ok hp]; exact hc, by rw [pu_lab I.nn I.ok hp]; exact elb⟩
  · have hg2 : g < nG x.1 := by have hg : g < nG (putT x.1 e) := hg; rw [pu_nG I.nn I.ok hp] at hg; exact hg
    rw [pu_at I.nn I.ok hp g hg2, pu_lab I.nn I.ok hp, List.length_append, List.length_singleton, cnt_last, elb]
    have hx := H.nxt g hg2
    by_cases hgc : g = cI x.1 (labE e)
    · rw [if_pos hgc, hgc, if_pos rfl, (putD_0 _ _).2.2.2]
      have hx2 : ((rgE x.1 e).nth 3).int = 1 + cnt x.2 x.2.length (labG x.1 (cI x.1 (labE e))) := by rw [← hgc]; rw [hgc] at hx ⊢; exact hx
      rw [hx2]; omega
    · rw [if_neg hgc, if_neg fun (e' : labG x.1 (cI x.1 (labE e)) = labG x.1 g) => hgc (lab_inj hd hc hg2 e'.symm), hx]; simp
theorem hist_new {c : D} (h : Cf.chE c = 0) : Hist (newT c, []) (c.nth 3).int := by
  obtain ⟨h1, h2, h3, h4⟩ := nt_rgs h
  refine ⟨h4, h2, nt_mrg h, fun j hj => by simp at hj, fun j hj => by simp at hj, fun j hj => by simp at hj, fun j hj => by simp at hj, fun j hj => by simp at hj, fun g hg => ?_⟩
  have hg2 : g < Cf.nC c := by have hg : g < nG (newT c) := hg; rw [nt_nG h] at hg; exact hg
  have hz : (ltB (Cf.sizeAt c g) 1 || ltB 64 (Cf.sizeAt c g)) = false := nw_size h hg2
  show ((rgAt (newT c) g).nth 3).int = 1 + ((0 : Nat) : Int)
  rw [nt_at h hg2, newR, if_neg (by rw [hz]; decide)]; rfl
theorem hist_mkR {x : D × List D} {hor : Int} {i : Nat} (H : Hist x hor) (I : InvM x i) (hi : i ≤ 30) (k : Int) : Hist (mkR k x) hor := by
  unfold mkR
  split
  · exact hist_tick H I hi
  split
  · rename_i hp; exact hist_put H I hp
  · exact H
theorem hist_mdR {c : D} (h : Cf.chE c = 0) (n : List D) : ∀ {i : Nat}, i ≤ 30 → Hist (mdR c n i) (c.nth 3).int
  | 0, _ => hist_new h
  | i + 1, hi => hist_mkR (hist_mdR h n (i := i) (by omega)) (inv_mdR h n (by omega)) (by omega) _
/-! ### Getting what was put -/
theorem cnt_lt {l : List D} {L : Int} {i j : Nat} (hij : i < j) (hj : j ≤ l.length) (h : lbS (l.getD i .Z) = L) : cnt l i L < cnt l j L := by
  have e : l.take j = l.take i ++ (l.drop i).take (j - i) := by
    rw [← List.take_add]; congr 1; omega
  rw [cnt, cnt, e, List.filter_append, List.length_append]
  have hm : l.getD i .Z ∈ (l.drop i).take (j - i) := by
    rw [List.getD_eq_getElem?_getD, List.getElem?_eq_getElem (by omega)]
    refine List.mem_take_iff_getElem.2 ⟨0, by simp; omega, by simp⟩
  have : 0 < (((l.drop i).take (j - i)).filter fun y => lbS y == L).length :=
    List.length_pos_iff.2 (List.ne_nil_of_mem (List.mem_filter.2 ⟨hm, by simpa using h⟩))
  omega
theorem hist_id {x : D × List D} {hor : Int} (H : Hist x hor) {i j : Nat} (hi : i < x.2.length) (hj : j < x.2.length) (hl : lbS (x.2.getD i .Z) = lbS (x.2.getD j .Z)) (hn : noS (x.2.getD i .Z) = noS (x.2.getD j .Z)) : i = j := by
  rw [H.no i hi, H.no j hj, hl] at hn
  rcases Nat.lt_trichotomy i j with h1 | h1 | h1
  · have := cnt_lt h1 (by omega) hl; omega
  · exact h1
  · have := cnt_lt h1 (by omega) (rfl : lbS (x.2.getD j .Z) = _); omega
end Go.Proofs.Ytpfpgjkbnjnjnaa.Tw

namespace Go.Proofs.Ytpfpgjkbnjnjnaa.Tw
open Go Go.Vm Rg
set_option linter.unusedSimpArgs false
set_option linter.unusedVariables false
set_option maxRecDepth 10000
theorem get_of_mem {s y : D} (h : stE s = 0) (hy : y ∈ flat (lsts s)) : getTE s (y.nth 0) = 0 ∧ getT s (y.nth 0) = y := by
  obtain ⟨hok, hd, _, _⟩ := st_ok h
  obtain ⟨i, hi, j, hj, rfl⟩ := mem_flat.1 hy
  have h2 := ev_id hok hi hj
  obtain ⟨d, hdd⟩ : ∃ d, d = (evAt (rgAt s i) j).nth 0 := ⟨_, rfl⟩
  rw [← hdd] at h2 ⊢
  have hc : cI s (d.nth 0).int = i := by rw [h2.1]; exact cI_lab hd hi
  have hE : cE s (d.nth 0).int = 0 := by rw [cE, hc, if_pos hi]
  have hr := getT_r (d := d) h hE
  rw [hc] at hr
  have hb := chk_bad (hok.2 i hi)
  have hcap := cap_le hb
  have h0 : getE (rgAt s i) (d.nth 1).int = 0 := by
    rw [getE, if_neg (by simp [hok.2 i hi]), if_neg]
    simp only [Bool.or_eq_true, ltB_true, leB_true, h2.2]; omega
  rw [← hr.2, ← hr.1, h0]
  refine ⟨rfl, ?_⟩
  rw [getD', if_neg (by simp [h0]), h2.2]; rfl
theorem mem_of_get {s d : D} (h : stE s = 0) (h0 : getTE s d = 0) : ∃ y, y ∈ mrg s ∧ (d.nth 0).int = ((y.nth 0).nth 0).int ∧ (d.nth 1).int = ((y.nth 0).nth 1).int := by
  cases hh : mHasS [u64, u64] d (mpY (mrg s)) with
  | true =>
    obtain ⟨y, h1, h2, _⟩ := mp_yes (z := D0 storedS) hh
    have := (eqId _ _).1 h2
    exact ⟨y, h1, this.1, this.2⟩
  | false =>
    have := (get_no h (srt_perm _) hh).2
    rw [h0] at this; cases this
theorem hist_get {x : D × List D} {hor : Int} (H : Hist x hor) (h : stE x.1 = 0) {j : Nat} (hj : j < x.2.length) :
    (yng (x.1.nth 2).int hor (x.2.getD j .Z) = true → getTE x.1 ((x.2.getD j .Z).nth 0) = 0 ∧ getT x.1 ((x.2.getD j .Z).nth 0) = x.2.getD j .Z) ∧
    (yng (x.1.nth 2).int hor (x.2.getD j .Z) = false → getTE x.1 ((x.2.getD j .Z).nth 0) ≠ 0) := by
  refine ⟨fun hy => ?_, fun hy h0 => ?_⟩
  · refine get_of_mem h ((srt_perm _).mem_iff.1 (show x.2.getD j .Z ∈ mrg x.1 from ?_))
    rw [H.mrgE]
    exact List.mem_filter.2 ⟨getD_mem hj, hy⟩
  · obtain ⟨z, h1, h2, h3⟩ := mem_of_get h h0
    rw [H.mrgE] at h1
    obtain ⟨h4, h5⟩ := List.mem_filter.1 h1
    obtain ⟨i, hi, rfl⟩ := mem_getD h4
    have := hist_id H hi hj h2.symm h3.symm
    subst this
    rw [hy] at h5; cases h5
/-- What is left is right for stream.Check. -/
theorem hist_good {x : D × List D} {hor : Int} {i : Nat} (H : Hist x hor) (I : InvM x i) (hi : i ≤ 30) : GoodL (mrg x.1) := by
  have hlen : (mrg x.1).length ≤ 512 := mrg_len (st_ok I.ok).1
  have hn := nu_ok (st_ok I.ok).2.2.2
  have hmem : ∀ k, k < (mrg x.1).length → ∃ j, j < x.2.length ∧ x.2.getD j .Z = (mrg x.1).getD k .Z := fun k hk => by
    have h1 := getD_mem hk
    rw [H.mrgE] at h1
    obtain ⟨j, hj, e⟩ := mem_getD (List.mem_filter.1 h1).1
    exact ⟨j, hj, by rw [e, H.mrgE]⟩
  have hst := mrg_strict (st_adj I.ok)
  refine ⟨by omega, fun k hk => ?_, fun k q hkq hq hl => ?_, fun k hk => ?_⟩
  · obtain ⟨j, hj, e⟩ := hmem k hk
    rw [← e]
    have h1 := H.kd j hj
    have h2 := H.key j hj
    have h3 := H.tk j hj
    have h4 := H.no j hj
    have h5 := I.len
    have h6 : cnt x.2 j (lbS (x.2.getD j .Z)) ≤ j := by
      rw [cnt]
      have := List.length_filter_le (fun y => lbS y == lbS (x.2.getD j .Z)) (x.2.take j)
      rw [List.length_take] at this; omega
    have h7 := I.tk
    have h8 : (ltB ((x.2.getD j .Z).nth 3).int 0 || leB 26 ((x.2.getD j .Z).nth 3).int) = false := by
      cases hb : (ltB ((x.2.getD j .Z).nth 3).int 0 || leB 26 ((x.2.getD j .Z).nth 3).int) with
      | false => rfl
      | true =>
        have : evC (.L [.Z, (x.2.getD j .Z).nth 3]) = 11 := if_pos hb
        rw [h1] at this; cases this
    simp only [Bool.or_eq_false_iff, ltB_false, leB_false] at h8
    simp only [cntB, Bool.and_eq_true, leB_true, h2, h4]
    have e5 : tkO (x.2.getD j .Z) = ((x.2.getD j .Z).nth 2).int := rfl
    omega
  · obtain ⟨j, hj, e⟩ := hmem k (by omega)
    obtain ⟨p, hp, e2⟩ := hmem q hq
    have hkey : keyO ((mrg x.1).getD k .Z) < keyO ((mrg x.1).getD q .Z) := by
      have := List.pairwise_iff_getElem.1 hst k q (by omega) hq hkq
      rw [List.getD_eq_getElem?_getD, List.getD_eq_getElem?_getD, List.getElem?_eq_getElem (by omega), List.getElem?_eq_getElem hq]
      exact this
    rw [← e, ← e2] at hkey hl ⊢
    rw [H.key j hj, H.key p hp] at hkey
    have := cnt_lt (l := x.2) (i := j) (j := p) (by omega) (by omega) hl
    rw [H.no j hj, H.no p hp, hl]; omega
  · have h1 := adjL_no hn.2.1 k hk
    have h2 := List.pairwise_iff_getElem.1 hst k (k + 1) (by omega) hk (by omega)
    rw [adjB, Bool.or_eq_false_iff, ltB_false] at h1
    refine ⟨?_, h1.2⟩
    rw [List.getD_eq_getElem?_getD, List.getD_eq_getElem?_getD, List.getElem?_eq_getElem (by omega), List.getElem?_eq_getElem hk]
    exact h2
end Go.Proofs.Ytpfpgjkbnjnjnaa.Tw

namespace Go.Proofs.Ytpfpgjkbnjnjnaa.Tw
open Go Go.Vm Rg
set_option linter.unusedSimpArgs false
set_option linter.unusedVariables false
set_option maxRecDepth 10000
structure SimE (a b : D) : Prop where
  lab : lbS a = lbS b
  no : noS a = noS b
  tk : tkO a = tkO b
  kd : (a.nth 3).int = (b.nth 3).int
  val : (a.nth 4).int = (b.nth 4).int
theorem SimE.rfl {a : D} : SimE a a := ⟨Eq.refl _, Eq.refl _, Eq.refl _, Eq.refl _, Eq.refl _⟩
structure SimR (r q : D) : Prop where
  h0 : (r.nth 0).int = (q.nth 0).int
  h1 : (r.nth 1).int = (q.nth 1).int
  h2 : (r.nth 2).int = (q.nth 2).int
  h3 : (r.nth 3).int = (q.nth 3).int
  ev : ∀ j, j < 64 → SimE ((r.nth 4).nth j) ((q.nth 4).nth j)
theorem SimR.rfl {r : D} : SimR r r := ⟨Eq.refl _, Eq.refl _, Eq.refl _, Eq.refl _, fun _ _ => SimE.rfl⟩
theorem SimR.cap {r q : D} (h : SimR r q) : cap r = cap q := by rw [Rg.cap, Rg.cap, h.h2, h.h3]
theorem SimR.pl {r q : D} (h : SimR r q) (i : Nat) : pl r i = pl q i := by rw [Rg.pl, Rg.pl, h.h1, h.h2]
theorem SimR.put {r q x y : D} (h : SimR r q) (he : SimE x y) : SimR (putD r x) (putD q y) := by
  have a := putD_0 r x
  have b := putD_0 q y
  refine ⟨by rw [a.1, b.1]; exact h.h0, by rw [a.2.1, b.2.1]; exact h.h1, by rw [a.2.2.1, b.2.2.1]; exact h.h2, by rw [a.2.2.2, b.2.2.2, h.h3], fun j hj => ?_⟩
  rw [putD_4, putD_4, h.h1, h.h3]
  split
  · exact he
  · exact h.ev j hj
theorem SimR.evict {r q : D} (h : SimR r q) : ∀ n, SimR (evR r n) (evR q n)
  | 0 => h
  | n + 1 => by
    have ih := SimR.evict h n
    have a := evR_0 r (n + 1)
    have b := evR_0 q (n + 1)
    refine ⟨by rw [a.1, b.1]; exact h.h0, by rw [a.2.1, b.2.1]; exact h.h1, by rw [a.2.2.2, b.2.2.2, h.h2], by rw [a.2.2.1, b.2.2.1]; exact h.h3, fun j hj => ?_⟩
    rw [evR_4, evR_4, h.pl]
    split
    · exact SimE.rfl
    · exact ih.ev j hj
theorem SimR.old {r q : D} (h : SimR r q) (hb : badR r = false) (now hor : Int) : evN r now hor = evN q now hor := by
  have hc := cap_le hb
  have hpl : ∀ i, i ≤ Rg.cap r → Rg.pl r i < 64 := fun i hi => pl_lt hb hi
  rw [evN, evN, ← h.cap]
  have key : ∀ m i, i + m ≤ Rg.cap r → cntUp (oldB r now hor) m i = cntUp (oldB q now hor) m i := by
    intro m
    induction m with
    | zero => intro i _; rfl
    | succ m ih =>
      intro i hi
      have e : oldB r now hor i = oldB q now hor i := by
        have := (h.ev (Rg.pl r i) (hpl i (by omega))).tk
        simp only [tkO] at this
        simp only [oldB, evAt, ← h.pl i, this]
      simp only [cntUp, e, ih (i + 1) (by omega)]
  exact key _ _ (by omega)
end Go.Proofs.Ytpfpgjkbnjnjnaa.Tw

namespace Go.Proofs.Ytpfpgjkbnjnjnaa.Tw
open Go Go.Vm Rg
set_option linter.unusedSimpArgs false
set_option linter.unusedVariables false
set_option maxRecDepth 10000
structure Sim (l : Int) (S T : D) : Prop where
  oS : stE S = 0
  nS : 0 ≤ (S.nth 1).int ∧ 0 ≤ (S.nth 2).int ∧ 0 ≤ (S.nth 3).int
  oT : stE T = 0
  nT : 0 ≤ (T.nth 1).int ∧ 0 ≤ (T.nth 2).int ∧ 0 ≤ (T.nth 3).int
  n : nG S = nG T
  lab : ∀ i, labG S i = labG T i
  arr : (T.nth 1).int ≤ (S.nth 1).int
  tk : (S.nth 2).int = (T.nth 2).int
  hor : (S.nth 3).int = (T.nth 3).int
  rg : ∀ i, i < nG S → Cf.belowB (labG S i) l = true → SimR (rgAt S i) (rgAt T i)
theorem Sim.new {c : D} (h : Cf.chE c = 0) (l : Int) : Sim l (newT c) (newT c) := by
  obtain ⟨h1, h2, h3, h4⟩ := nt_rgs h
  have hc := (Cf.ch_ok.1 h).2.2.2.2
  simp only [Cf.horBad, Cf.out, Bool.or_eq_false_iff, ltB_false] at hc
  exact ⟨nt_right h, by omega, nt_right h, by omega, rfl, fun _ => rfl, Int.le_refl _, rfl, rfl, fun _ _ _ => SimR.rfl⟩
theorem Sim.cI {l : Int} {S T : D} (h : Sim l S T) (x : Int) : cI S x = cI T x := by
  have e : isC S x = isC T x := by funext i; rw [isC, isC, h.lab i]
  rw [Go.Proofs.Ytpfpgjkbnjnjnaa.cI, Go.Proofs.Ytpfpgjkbnjnjnaa.cI, e, h.n]
theorem Sim.tickE {l : Int} {S T : D} (h : Sim l S T) (hp : tickE S = 0) : tickE T = 0 :=
  ti_0 h.oT (by have := ti_top h.nS h.oS hp; rw [← h.tk]; simp only [leB_false]; exact this)
theorem Sim.tick {l : Int} {S T : D} (h : Sim l S T) (hp : Go.Proofs.Ytpfpgjkbnjnjnaa.tickE S = 0) : Sim l (tickT S) (tickT T) := by
  have hq := h.tickE hp
  obtain ⟨s1, s2, s3, s4⟩ := ti_rgs h.nS h.oS hp
  obtain ⟨t1, t2, t3, t4⟩ := ti_rgs h.nT h.oT hq
  have nS := h.nS
  have nT := h.nT
  have hnow : now1 S = now1 T := by rw [now1, now1, h.tk]
  have n1 : 0 ≤ now1 S := by rw [now1]; omega
  refine ⟨ti_right h.nS h.oS hp, ⟨by rw [s2]; exact nS.1, by rw [s3]; exact n1, by rw [s4]; exact nS.2.2⟩, ti_right h.nT h.oT hq, ⟨by rw [t2]; exact nT.1, by rw [t3, ← hnow]; exact n1, by rw [t4]; exact nT.2.2⟩,
    by rw [ti_nG h.nS h.oS hp, ti_nG h.nT h.oT hq, h.n], fun i => by rw [ti_lab h.nS h.oS hp, ti_lab h.nT h.oT hq, h.lab], by rw [s2, t2]; exact h.arr, by rw [s3, t3, hnow], by rw [s4, t4, h.hor], fun i hi hb => ?_⟩
  rw [ti_nG h.nS h.oS hp] at hi
  rw [ti_lab h.nS h.oS hp] at hb
  have hr := h.rg i hi hb
  have hbad : badR (rgAt S i) = false := chk_bad ((st_ok h.oS).1.2 i hi)
  rw [ti_at h.nS h.oS hp i hi, ti_at h.nT h.oT hq i (by rw [← h.n]; exact hi), tickRg, tickRg, tickK, tickK, ← hnow, ← h.hor, ← hr.old hbad]
  exact hr.evict _
theorem mrg_key' {s : D} (h : stE s = 0) {x : D} (hx : x ∈ mrg s) : 1 ≤ keyO x ∧ keyO x ≤ (s.nth 1).int ∧ (x.nth 2).int ≤ (s.nth 2).int := by
  have h1 := flat_pos (st_ok h).1 ((srt_perm _).mem_iff.1 hx)
  have h2 := (nu_ok (st_ok h).2.2.2).1
  rw [List.any_eq_false] at h2
  have h3 := h2 x hx
  simp only [lateG, Bool.or_eq_true, ltB_true, not_or] at h3
  have : keyO x = (x.nth 1).int := rfl
  omega
/-- An event can be put into a right store whose ring isn't full. -/
theorem put_0 {T f : D} (h : stE T = 0) (hn : 0 ≤ (T.nth 1).int ∧ 0 ≤ (T.nth 2).int ∧ 0 ≤ (T.nth 3).int) (h1 : evC f = 0) (h2 : cE T (labE f) = 0) (h3 : (T.nth 1).int < 1099511627776)
    (h4 : ((cap (rgE T f) : Int) == ((rgE T f).nth 1).int || ltB 1099511627776 ((rgE T f).nth 3).int) = false) : putTE T f = 0 := by
  have hr := st_rng h
  have hc := (cN_lt h2).2.2.2
  have hchk : chk (rgE T f) = 0 := (st_ok h).1.2 _ hc
  rw [putTE, ite0 h, if_neg (by rw [h1]; decide), if_neg (by rw [h2]; decide), if_neg (by simp only [leB_true]; omega)]
  have he : evF ((rgE T f).nth 0).int ((rgE T f).nth 3).int (newD (rgE T f) (arr1 T) (T.nth 2).int (f.nth 1).int (f.nth 2).int) (bef (rgE T f) (cap (rgE T f))) = 0 := by
    have hb : (bef (rgE T f) (cap (rgE T f))).nth 1 = .I 0 ∧ (bef (rgE T f) (cap (rgE T f))).nth 2 = .I 0 ∨ bef (rgE T f) (cap (rgE T f)) ∈ mrg T := by
      cases hcap : cap (rgE T f) with
      | zero => exact .inl ⟨rfl, rfl⟩
      | succ m =>
        refine .inr ((srt_perm _).mem_iff.2 (mem_flat.2 ⟨_, hc, m, ?_, rfl⟩))
        show m < cap (rgE T f)
        omega
    have hbb : ((bef (rgE T f) (cap (rgE T f))).nth 1).int < arr1 T ∧ ((bef (rgE T f) (cap (rgE T f))).nth 2).int ≤ (T.nth 2).int := by
      rw [arr1]
      rcases hb with ⟨e1, e2⟩ | hb
      · rw [e1, e2]
        show (0 : Int) < (T.nth 1).int + 1 ∧ (0 : Int) ≤ (T.nth 2).int
        omega
      · have hk := mrg_key' h hb
        have : keyO (bef (rgE T f) (cap (rgE T f))) = ((bef (rgE T f) (cap (rgE T f))).nth 1).int := rfl
        omega
    obtain ⟨b, hbe⟩ : ∃ b, b = bef (rgE T f) (cap (rgE T f)) := ⟨_, rfl⟩
    rw [← hbe] at hbb ⊢
    have k1 : (ltB (f.nth 1).int 0 || ltB 25 (f.nth 1).int) = false := by
      rw [evC] at h1
      split at h1
      · cases h1
      · rename_i hh
        simp only [Bool.or_eq_true, ltB_true, leB_true, not_or] at hh
        simp only [Bool.or_eq_false_iff, ltB_false]; omega
    show (if eqD idS (idD ((rgE T f).nth 0).int ((rgE T f).nth 3).int) (idD ((rgE T f).nth 0).int ((rgE T f).nth 3).int) = false then (3 : Int)
      else if (ltB (f.nth 1).int 0 || ltB 25 (f.nth 1).int) = true then 11
      else if (ltB (arr1 T) 1 || ltB 1099511627776 (arr1 T) || ltB 1099511627776 (T.nth 2).int) = true then 2
      else if (leB (arr1 T) (b.nth 1).int || ltB (T.nth 2).int (b.nth 2).int) = true then 9 else 0) = 0
    have kid : ∀ a b : Int, eqD idS (idD a b) (idD a b) = true := fun a b => (eqId _ _).2 ⟨rfl, rfl⟩
    rw [kid, if_neg (by decide), if_neg (by rw [k1]; decide), if_neg ?_, if_neg ?_]
    · simp only [Bool.or_eq_true, ltB_true, leB_true, not_or]; omega
    · simp only [Bool.or_eq_true, ltB_true, not_or]; rw [arr1]; omega
  rw [putE, if_neg (by rw [hchk]; decide), if_neg (by rw [he]; decide), if_neg (by rw [h4]; decide)]
mutual
theorem eqD_of_same : ∀ {s : Sh} {a b : D}, s.flat = true → Same s a b → eqD s a b = true
  | .int _, _, _, _, h => by simp only [Same] at h; simp [eqD, h]
  | .bool, _, _, _, h => by simp only [Same] at h; simp [eqD, h]
  | .str, a, b, _, h => by
    simp only [Same] at h
    have hb : ∀ x : ByteArray, (x == x) = true := fun ⟨x⟩ => by show (x == x) = true; simp
    simp only [eqD, h]; exact hb _
  | .struct ss, _, _, hf, h => by simp only [Same] at h; simp only [eqD]; exact eqDs_of_sames (by simpa [Sh.flat] using hf) h
  | .arr n s, _, _, hf, h => by
    simp only [Same] at h
    simp only [eqD, List.all_eq_true, List.mem_range]
    exact fun j hj => eqD_of_same (by simpa [Sh.flat] using hf) (h j hj)
  | .slice s, _, _, hf, _ => by simp [Sh.flat] at hf
  | .ref, _, _, hf, _ => by simp [Sh.flat] at hf
theorem eqDs_of_sames : ∀ {ss : List Sh} {i : Nat} {a b : D}, Sh.flats ss = true → Sames ss i a b → eqDs ss i a b = true
  | [], _, _, _, _, _ => by simp [eqDs]
  | s :: ss, _, _, _, hf, h => by
    simp only [Sh.flats, Bool.and_eq_true] at hf
    simp only [Sames] at h
    simp only [eqDs, Bool.and_eq_true]
    exact ⟨eqD_of_same hf.1 h.1, eqDs_of_sames hf.2 h.2⟩
end
theorem Sim.put {l : Int} {S T e f : D} (h : Sim l S T) (hp : putTE S e = 0) (hb : Cf.belowB (labE e) l = true) (e0 : labE f = labE e) (e1 : (f.nth 1).int = (e.nth 1).int) (e2 : (f.nth 2).int = (e.nth 2).int) :
    putTE T f = 0 ∧ Sim l (putT S e) (putT T f) ∧ SimE (putX S e) (putX T f) := by
  obtain ⟨p1, p2, p3, p4⟩ := pu_parts h.nS h.oS hp
  have hc := (cN_lt p2).2.2.2
  have hcT : Go.Proofs.Ytpfpgjkbnjnjnaa.cI T (labE f) = Go.Proofs.Ytpfpgjkbnjnjnaa.cI S (labE e) := by rw [e0, h.cI]
  have hlab : labG S (Go.Proofs.Ytpfpgjkbnjnjnaa.cI S (labE e)) = labE e := cI_is hc
  have hr : SimR (rgE S e) (rgE T f) := by rw [rgE, rgE, hcT]; exact h.rg _ hc (by rw [hlab]; exact hb)
  have q := putE_0 p4
  have harr := h.arr
  have hq : putTE T f = 0 := by
    refine put_0 h.oT h.nT (by rw [evC, e1]; exact p1) (by rw [cE, hcT, ← h.n, if_pos hc]) (by omega) ?_
    rw [← hr.cap, ← hr.h1, ← hr.h3, Bool.or_eq_false_iff]
    refine ⟨by rw [beq_eq_false_iff_ne]; omega, by simp only [ltB_false]; omega⟩
  have hE : SimE (newE S e) (newE T f) := ⟨hr.h0, hr.h3, h.tk, e1.symm, e2.symm⟩
  obtain ⟨s1, s2, s3, s4⟩ := pu_rgs h.nS h.oS hp
  obtain ⟨t1, t2, t3, t4⟩ := pu_rgs h.nT h.oT hq
  have nS := h.nS
  have nT := h.nT
  refine ⟨hq, ⟨pu_right h.nS h.oS hp, ⟨by rw [s2, arr1]; omega, by rw [s3]; exact nS.2.1, by rw [s4]; exact nS.2.2⟩, pu_right h.nT h.oT hq, ⟨by rw [t2, arr1]; omega, by rw [t3]; exact nT.2.1, by rw [t4]; exact nT.2.2⟩,
    by rw [pu_nG h.nS h.oS hp, pu_nG h.nT h.oT hq, h.n], fun i => by rw [pu_lab h.nS h.oS hp, pu_lab h.nT h.oT hq, h.lab], by rw [s2, t2, arr1, arr1]; omega, by rw [s3, t3]; exact h.tk, by rw [s4, t4]; exact h.hor, fun i hi hbi => ?_⟩, ?_⟩
  · rw [pu_nG h.nS h.oS hp] at hi
    rw [pu_lab h.nS h.oS hp] at hbi
    rw [pu_at h.nS h.oS hp i hi, pu_at h.nT h.oT hq i (by rw [← h.n]; exact hi), hcT]
    split
    · exact hr.put hE
    · exact h.rg i hi hbi
  · rw [← (pu_ok hp).2.1, ← (pu_ok hq).2.1]; exact hE
theorem Sim.skip {l : Int} {S T e : D} (h : Sim l S T) (hp : putTE S e = 0) (hb : Cf.belowB (labE e) l = false) : Sim l (putT S e) T := by
  obtain ⟨p1, p2, p3, p4⟩ := pu_parts h.nS h.oS hp
  have hc := (cN_lt p2).2.2.2
  have hlab : labG S (Go.Proofs.Ytpfpgjkbnjnjnaa.cI S (labE e)) = labE e := cI_is hc
  obtain ⟨s1, s2, s3, s4⟩ := pu_rgs h.nS h.oS hp
  have nS := h.nS
  have harr := h.arr
  refine ⟨pu_right h.nS h.oS hp, ⟨by rw [s2, arr1]; omega, by rw [s3]; exact nS.2.1, by rw [s4]; exact nS.2.2⟩, h.oT, h.nT, by rw [pu_nG h.nS h.oS hp, h.n], fun i => by rw [pu_lab h.nS h.oS hp, h.lab], by rw [s2, arr1]; omega, by rw [s3]; exact h.tk, by rw [s4]; exact h.hor, fun i hi hbi => ?_⟩
  rw [pu_nG h.nS h.oS hp] at hi
  rw [pu_lab h.nS h.oS hp] at hbi
  rw [pu_at h.nS h.oS hp i hi, if_neg (fun e => by rw [e, hlab, hb] at hbi; cases hbi)]
  exact h.rg i hi hbi
/-- How a store goes on: ticks, and events that are put. -/
inductive Cont : D → List D → D → Prop
  | done (S : D) : Cont S [] S
  | tick {S W : D} {B : List D} : Go.Proofs.Ytpfpgjkbnjnjnaa.tickE S = 0 → Cont (tickT S) B W → Cont S B W
  | put {S W e : D} {B : List D} : putTE S e = 0 → Cont (putT S e) B W → Cont S (putX S e :: B) W
theorem Cont.snocT {S W : D} {B : List D} (h : Cont S B W) : Go.Proofs.Ytpfpgjkbnjnjnaa.tickE W = 0 → Cont S B (tickT W) := by
  induction h with
  | done S => exact fun h => .tick h (.done _)
  | tick h1 _ ih => exact fun h => .tick h1 (ih h)
  | put h1 _ ih => exact fun h => .put h1 (ih h)
theorem Cont.snocP {S W e : D} {B : List D} (h : Cont S B W) : putTE W e = 0 → Cont S (B ++ [putX W e]) (putT W e) := by
  induction h with
  | done S => exact fun h => .put h (.done _)
  | tick h1 _ ih => exact fun h => .tick h1 (ih h)
  | put h1 _ ih => exact fun h => .put h1 (ih h)
theorem cont_mdR {c : D} (h : Cf.chE c = 0) (n : List D) : ∀ {i : Nat}, i ≤ 30 → Cont (newT c) (mdR c n i).2 (mdR c n i).1
  | 0, _ => .done _
  | i + 1, hi => by
    have ih := cont_mdR h n (i := i) (by omega)
    have I := inv_mdR h n (i := i) (by omega)
    rw [mdR, mkR]
    split
    · exact ih.snocT (I.tickE (by omega))
    · split
      · rename_i hp; exact ih.snocP hp
      · exact ih
/-- Time goes on. -/
theorem Cont.time {S W : D} {B : List D} (h : Cont S B W) : stE S = 0 → 0 ≤ (S.nth 1).int ∧ 0 ≤ (S.nth 2).int ∧ 0 ≤ (S.nth 3).int → (S.nth 2).int ≤ (W.nth 2).int ∧ ∀ a, a ∈ B → (S.nth 2).int ≤ tkO a ∧ tkO a ≤ (W.nth 2).int := by
  induction h with
  | done S => exact fun _ _ => ⟨Int.le_refl _, fun a h => (by cases h)⟩
  | @tick S W B h1 _ ih =>
    intro h0 hn
    obtain ⟨s1, s2, s3, s4⟩ := ti_rgs hn h0 h1
    have e3 : ((tickT S).nth 2).int = (S.nth 2).int + 1 := s3
    obtain ⟨i1, i2⟩ := ih (ti_right hn h0 h1) ⟨by rw [s2]; exact hn.1, by omega, by rw [s4]; exact hn.2.2⟩
    exact ⟨by omega, fun a ha => by have := i2 a ha; omega⟩
  | @put S W e B h1 _ ih =>
    intro h0 hn
    obtain ⟨s1, s2, s3, s4⟩ := pu_rgs hn h0 h1
    have e2 : ((putT S e).nth 1).int = (S.nth 1).int + 1 := s2
    obtain ⟨i1, i2⟩ := ih (pu_right hn h0 h1) ⟨by omega, by rw [s3]; exact hn.2.1, by rw [s4]; exact hn.2.2⟩
    rw [s3] at i1 i2
    refine ⟨i1, fun a ha => ?_⟩
    rcases List.mem_cons.1 ha with e' | ha
    · subst e'
      rw [← (pu_ok h1).2.1]
      exact ⟨Int.le_refl _, i1⟩
    · exact i2 a ha
/-- The store that follows has not yet come to the time of the next event. -/
theorem Cont.early {l : Int} {S T W a : D} {B : List D} (h : Sim l S T) (hc : Cont S (a :: B) W) (ht : (T.nth 2).int < tkO a) : Go.Proofs.Ytpfpgjkbnjnjnaa.tickE T = 0 ∧ ∃ S', Sim l S' (tickT T) ∧ Cont S' (a :: B) W := by
  cases hc with
  | tick h1 h2 => exact ⟨h.tickE h1, _, h.tick h1, h2⟩
  | put h1 h2 =>
    exfalso
    rw [← (pu_ok h1).2.1] at ht
    have ht : (T.nth 2).int < (S.nth 2).int := ht
    rw [h.tk] at ht
    omega
theorem Cont.now {l : Int} {S T W a : D} {B : List D} (h : Sim l S T) (hc : Cont S (a :: B) W) (ht : ¬ (T.nth 2).int < tkO a) : ∃ e, a = putX S e ∧ putTE S e = 0 ∧ Cont (putT S e) B W := by
  cases hc with
  | tick h1 h2 =>
    exfalso
    obtain ⟨s1, s2, s3, s4⟩ := ti_rgs h.nS h.oS h1
    have e3 : ((tickT S).nth 2).int = (S.nth 2).int + 1 := s3
    have nS := h.nS
    have := (h2.time (ti_right h.nS h.oS h1) ⟨by rw [s2]; exact nS.1, by omega, by rw [s4]; exact nS.2.2⟩).2 a (by simp)
    have := h.tk
    omega
  | put h1 h2 => exact ⟨_, rfl, h1, h2⟩
theorem Cont.last {l : Int} {S T W : D} (h : Sim l S T) (hc : Cont S [] W) (ht : (T.nth 2).int < (W.nth 2).int) : Go.Proofs.Ytpfpgjkbnjnjnaa.tickE T = 0 ∧ ∃ S', Sim l S' (tickT T) ∧ Cont S' [] W := by
  cases hc with
  | done => exfalso; have := h.tk; omega
  | tick h1 h2 => exact ⟨h.tickE h1, _, h.tick h1, h2⟩
theorem Cont.over {l : Int} {S T W : D} (h : Sim l S T) (hc : Cont S [] W) (ht : ¬ (T.nth 2).int < (W.nth 2).int) : W = S := by
  cases hc with
  | done => rfl
  | tick h1 h2 =>
    exfalso
    obtain ⟨s1, s2, s3, s4⟩ := ti_rgs h.nS h.oS h1
    have e3 : ((tickT S).nth 2).int = (S.nth 2).int + 1 := s3
    have nS := h.nS
    have := (h2.time (ti_right h.nS h.oS h1) ⟨by rw [s2]; exact nS.1, by omega, by rw [s4]; exact nS.2.2⟩).1
    have := h.tk
    omega
/-- The rings below a label, by their places. -/
def bwI (s : D) (l : Int) : List Nat := (List.range (nG s)).filter fun i => Cf.belowB (labG s i) l
/-- A ring whose first events have no arrival. -/
def zr (r : D) : Nat → D
  | 0 => r
  | k + 1 => D.puts ringS (zr r k) [.fld 4, .idx k, .fld 1] (.I 0)
theorem zr_0 (r : D) : ∀ k, (zr r k).nth 0 = r.nth 0 ∧ (zr r k).nth 1 = r.nth 1 ∧ (zr r k).nth 2 = r.nth 2 ∧ (zr r k).nth 3 = r.nth 3
  | 0 => ⟨rfl, rfl, rfl, rfl⟩
  | k + 1 => by
    obtain ⟨h0, h1, h2, h3⟩ := zr_0 r k
    exact ⟨h0 ▸ rfl, h1 ▸ rfl, h2 ▸ rfl, h3 ▸ rfl⟩
theorem zr_4 (r : D) (k j : Nat) : ((zr r (k + 1)).nth 4).nth j = if j = k then D.puts storedS (((zr r k).nth 4).nth k) [.fld 1] (.I 0) else ((zr r k).nth 4).nth j := by
  show (D.puts (.arr 64 storedS) ((zr r k).nth 4) [.idx k, .fld 1] (.I 0)).nth j = _
  simp [D.puts_idx]
theorem zr_ev (r : D) (j : Nat) : ∀ k, (((zr r k).nth 4).nth j).nth 0 = ((r.nth 4).nth j).nth 0 ∧ (((zr r k).nth 4).nth j).nth 1 = (if j < k then .I 0 else ((r.nth 4).nth j).nth 1) ∧ (((zr r k).nth 4).nth j).nth 2 = ((r.nth 4).nth j).nth 2 ∧ (((zr r k).nth 4).nth j).nth 3 = ((r.nth 4).nth j).nth 3 ∧ (((zr r k).nth 4).nth j).nth 4 = ((r.nth 4).nth j).nth 4
  | 0 => ⟨rfl, by rw [if_neg (by omega)]; rfl, rfl, rfl, rfl⟩
  | k + 1 => by
    obtain ⟨h0, h1, h2, h3, h4⟩ := zr_ev r j k
    rw [zr_4]
    by_cases e : j = k
    · subst e
      rw [if_pos rfl, if_pos (by omega)]
      exact ⟨h0, rfl, h2, h3, h4⟩
    · rw [if_neg e]
      refine ⟨h0, ?_, h2, h3, h4⟩
      rw [h1]
      by_cases hl : j < k
      · rw [if_pos hl, if_pos (by omega)]
      · rw [if_neg hl, if_neg (by omega)]
theorem zr_same {a b : D} (h : SimR a b) : eqD ringS (zr a 64) (zr b 64) = true := by
  refine eqD_of_same rfl ?_
  have a0 := zr_0 a 64
  have b0 := zr_0 b 64
  simp only [Same, Sames, and_true]
  refine ⟨by rw [a0.1, b0.1]; exact h.h0, by rw [a0.2.1, b0.2.1]; exact h.h1, by rw [a0.2.2.1, b0.2.2.1]; exact h.h2, by rw [a0.2.2.2, b0.2.2.2]; exact h.h3, fun j hj => ?_⟩
  obtain ⟨p0, p1, p2, p3, p4⟩ := zr_ev a j 64
  obtain ⟨q0, q1, q2, q3, q4⟩ := zr_ev b j 64
  have he := h.ev j hj
  rw [p0, p1, p2, p3, p4, q0, q1, q2, q3, q4, if_pos hj, if_pos hj]
  exact ⟨⟨he.lab, he.no⟩, rfl, he.tk, he.kd, he.val⟩
def evO (x : D) : D := .L [.I (lbS x), .I (x.nth 3).int, .I (x.nth 4).int]
def sOf : Sum := ⟨[storedS], fun _ => none, fun
  | [x] => .dat eventS (evO x)
  | _ => .und⟩
def cBe : Ctx := ⟨tabM, refsT, [(23, Cf.sCfg), (40, sNewT), (35, sTick), (50, sPutT)], [], keep, mpsT⟩
def sBelow : Sum := ⟨[i64, u64, .slice i64], fun _ => none, fun _ => .dat .bool (.B true)⟩
end Go.Proofs.Ytpfpgjkbnjnjnaa.Tw
