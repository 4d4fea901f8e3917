/- Stores: what is made of numbers. -/
import Derived.Test.YtmdhmjidmiemmaaWTq
import Derived.Test.YtmdhmjidmiemmaaWTo
namespace Go.Proofs.Ytmdhmjidmiemmaa
open Go Go.Vm Rg
set_option linter.unusedSimpArgs false
set_option linter.unusedVariables false
set_option maxRecDepth 10000
/-! ### A new store is right -/
theorem new_chk {l z : Int} (h : (ltB z 1 || ltB 64 z) = false) : chk (newR l z) = 0 ∧ evs (newR l z) = [] := by
  have e : newR l z = .L [.I l, .I z, .I 1, .I 1, D0 (.arr 64 storedS)] := if_neg (by rw [h]; decide)
  have hc : cap (newR l z) = 0 := by rw [e]; rfl
  simp only [Bool.or_eq_false_iff, ltB_false] at h
  refine ⟨chk_ok.2 ⟨?_, fun k hk => by omega, fun j hj _ => ?_⟩, by rw [evs, hc]; rfl⟩
  · rw [e]
    show (ltB z 1 || ltB 64 z || ltB 1 1 || ltB 1 1 || ltB 1099511627777 1 || ltB (IntKind.u64.wrap z) (IntKind.u64.wrap (1 - 1))) = false
    rw [wrap_u64 (by omega) (by omega)]
    simp only [Bool.or_eq_false_iff, ltB_false]
    refine ⟨⟨⟨⟨⟨by omega, by omega⟩, by omega⟩, by omega⟩, by omega⟩, ?_⟩
    show IntKind.u64.wrap (1 - 1) ≤ z
    rw [show (1 : Int) - 1 = 0 from rfl, wrap_u64 (by omega) (by omega)]; omega
  · rw [nz, e]
    show (!eqD storedS ((D0 (.arr 64 storedS)).nth j) (D0 storedS)) = false
    have : (D0 (.arr 64 storedS)).nth j = D0 storedS := rfl
    rw [this, eqStored]; rfl
theorem nt_rgs {c : D} (h : Cf.chE c = 0) : rgs (newT c) = newRgs c (Cf.nC c) ∧ ((newT c).nth 1).int = 0 ∧ ((newT c).nth 2).int = 0 ∧ ((newT c).nth 3).int = (c.nth 3).int := by
  rw [← newT_ok h]; exact ⟨rfl, rfl, rfl, rfl⟩
theorem nt_at {c : D} (h : Cf.chE c = 0) {i : Nat} (hi : i < Cf.nC c) : rgAt (newT c) i = newR (Cf.labAt c i) (Cf.sizeAt c i) := by
  rw [rgAt, (nt_rgs h).1, newRgs, List.getD_eq_getElem?_getD, List.getElem?_map, List.getElem?_range hi]; rfl
theorem nt_nG {c : D} (h : Cf.chE c = 0) : nG (newT c) = Cf.nC c := by rw [nG, (nt_rgs h).1, newRgs_len]
theorem nt_mrg {c : D} (h : Cf.chE c = 0) : mrg (newT c) = [] := by
  have e : flat (lsts (newT c)) = [] := by
    rw [flat, List.flatten_eq_nil_iff]
    intro l hl
    rw [lsts, (nt_rgs h).1] at hl
    obtain ⟨r, hr, rfl⟩ := List.mem_map.1 hl
    obtain ⟨i, hi, rfl⟩ := List.mem_map.1 hr
    exact (new_chk (nw_size h (by simpa using hi))).2
  rw [mrg, e]; rfl
theorem nt_right {c : D} (h : Cf.chE c = 0) : stE (newT c) = 0 := by
  obtain ⟨h1, h2, h3, h4⟩ := nt_rgs h
  have hc := Cf.ch_ok.1 h
  refine st_zero ⟨by rw [nt_nG h]; exact nw_len h, fun i hi => ?_⟩ ?_ ?_ ?_
  · rw [nt_nG h] at hi
    rw [nt_at h hi]; exact (new_chk (nw_size h hi)).1
  · have hl : ∀ i, i < Cf.nC c → labG (newT c) i = Cf.labAt c i := fun i hi => by
      have hz : (ltB (Cf.sizeAt c i) 1 || ltB 64 (Cf.sizeAt c i)) = false := nw_size h hi
      rw [labG, nt_at h hi, newR, if_neg (by rw [hz]; decide)]; rfl
    rw [dupG, nt_nG h]
    refine anyR_no fun i hi => anyR_no fun k hk => ?_
    rw [hl i hi, hl k (by omega)]
    have h5 := hc.2.1 i hi
    apply Classical.byContradiction
    intro hne
    have hb : Cf.clBad (Cf.clsAt c i) = false := by
      cases hb : Cf.clBad (Cf.clsAt c i) with
      | false => rfl
      | true => rw [Cf.clE_2 hb] at h5; cases h5
    rw [Cf.clE_8 hb (anyR_at hk (Bool.not_eq_false _ ▸ hne))] at h5; cases h5
  · have h6 : Cf.horBad c = false := hc.2.2.2.2
    simp only [Cf.horBad, Cf.out, Bool.or_eq_false_iff, ltB_false] at h6
    simp only [rngG, h2, h3, h4, Bool.or_eq_false_iff, ltB_false]; omega
  · refine nu_0 ?_ ?_ ?_ <;> rw [nt_mrg h] <;> rfl
/-! ### made -/
def kOf (n : List D) (i : Nat) : Int := Cf.modI (n.getD i .Z).int 1099511627776
def mkR (k : Int) (x : D × List D) : D × List D :=
  if (k.tmod 5 == 0) = true then (tickT x.1, x.2) else if putTE x.1 (evK (IntKind.i64.wrap (k.tdiv 5))) = 0 then (putT x.1 (evK (IntKind.i64.wrap (k.tdiv 5))), x.2 ++ [putX x.1 (evK (IntKind.i64.wrap (k.tdiv 5)))]) else x
def mdR (c : D) (n : List D) : Nat → D × List D
  | 0 => (newT c, [])
  | i + 1 => mkR (kOf n i) (mdR c n i)
def mdN (n : List D) : Nat := min n.length 30
def sMade : Sum := ⟨[Cf.configS, .slice i64], fun
  | [c, _] => some (Cf.chE c = 0)
  | _ => none, fun
  | [c, n] => .tup [.dat storeS (mdR c n.list (mdN n.list)).1, .dat (.slice storedS) (.L (mdR c n.list (mdN n.list)).2), .dat .bool (.B true)]
  | _ => .und⟩
structure InvM (x : D × List D) (i : Nat) : Prop where
  ok : stE x.1 = 0
  nn : 0 ≤ (x.1.nth 1).int ∧ 0 ≤ (x.1.nth 2).int ∧ 0 ≤ (x.1.nth 3).int
  tk : (x.1.nth 2).int ≤ i
  len : x.2.length ≤ i
theorem InvM.tickE {x : D × List D} {i : Nat} (I : InvM x i) (hi : i ≤ 30) : tickE x.1 = 0 := ti_0 I.ok (by
  have := I.tk
  simp only [leB_false]; omega)
theorem inv_tick {x : D × List D} {i : Nat} (I : InvM x i) (hi : i ≤ 30) : InvM (tickT x.1, x.2) (i + 1) := by
  have ht := I.tickE hi
  obtain ⟨h1, h2, h3, h4⟩ := ti_rgs I.nn I.ok ht
  have hn := I.nn
  have hk := I.tk
  have hl := I.len
  have e3 : ((tickT x.1).nth 2).int = (x.1.nth 2).int + 1 := h3
  exact ⟨ti_right I.nn I.ok ht, ⟨by rw [h2]; exact hn.1, by rw [e3]; omega, by rw [h4]; exact hn.2.2⟩, by rw [e3]; omega, by dsimp only; omega⟩
theorem inv_put {x : D × List D} {i : Nat} {e : D} (I : InvM x i) (hp : putTE x.1 e = 0) : InvM (putT x.1 e, x.2 ++ [putX x.1 e]) (i + 1) := by
  obtain ⟨h1, h2, h3, h4⟩ := pu_rgs I.nn I.ok hp
  have hn := I.nn
  have hk := I.tk
  have hl := I.len
  have e2 : ((putT x.1 e).nth 1).int = (x.1.nth 1).int + 1 := h2
  exact ⟨pu_right I.nn I.ok hp, ⟨by rw [e2]; omega, by rw [h3]; exact hn.2.1, by rw [h4]; exact hn.2.2⟩, by rw [h3]; omega, by rw [List.length_append, List.length_singleton]; omega⟩
theorem inv_skip {x : D × List D} {i : Nat} (I : InvM x i) : InvM x (i + 1) := by
  have hk := I.tk
  have hl := I.len
  exact ⟨I.ok, I.nn, by omega, by omega⟩
theorem inv_mkR {x : D × List D} {i : Nat} (I : InvM x i) (hi : i ≤ 30) (k : Int) : InvM (mkR k x) (i + 1) := by
  unfold mkR
  split
  · exact inv_tick I hi
  split
  · rename_i hp; exact inv_put I hp
  · exact inv_skip I
theorem inv_mdR {c : D} (h : Cf.chE c = 0) (n : List D) : ∀ {i : Nat}, i ≤ 30 → InvM (mdR c n i) i
  | 0, _ => by
    obtain ⟨h1, h2, h3, h4⟩ := nt_rgs h
    have hc := (Cf.ch_ok.1 h).2.2.2.2
    simp only [Cf.horBad, Cf.out, Bool.or_eq_false_iff, ltB_false] at hc
    exact ⟨nt_right h, ⟨by show 0 ≤ ((newT c).nth 1).int; omega, by show 0 ≤ ((newT c).nth 2).int; omega, by show 0 ≤ ((newT c).nth 3).int; omega⟩, by show ((newT c).nth 2).int ≤ 0; omega, Nat.le_refl _⟩
  | i + 1, hi => inv_mkR (inv_mdR h n (i := i) (by omega)) (by omega) _
theorem mdN_lt {n : List D} {i : Nat} (h : (ltB (i : Int) (n.length : Int) && ltB (i : Int) 30) = true) : i < mdN n ∧ i < n.length := by
  simp only [Bool.and_eq_true, ltB_true] at h
  rw [mdN]; omega
theorem mdN_ge {n : List D} {i : Nat} (hi : i ≤ mdN n) (h : (ltB (i : Int) (n.length : Int) && ltB (i : Int) 30) = false) : i = mdN n := by
  simp only [Bool.and_eq_false_iff, ltB_false] at h
  rw [mdN] at hi ⊢; omega
def tabM : List (Nat × Sh) := (22, .slice i64) :: tabT
theorem tabMOK : tabB Try.prog tabM = true := by kernel_rfl
end Go.Proofs.Ytmdhmjidmiemmaa
