/- Accounts of rings: the law RingKeeps. -/
import Derived.Test.YtlmokgfjfogdoaaGu
namespace Go.Proofs.Ytlmokgfjfogdoaa
open Go Go.Vm
set_option linter.unusedSimpArgs false
set_option maxRecDepth 10000
def sKeeps : Sum := ⟨[i64, .slice i64, i64], fun _ => none, fun _ => .dat .bool (.B true)⟩
theorem made_list (s : Int) (l : List D) : ((mA s l).drop (((mR s l).nth 2).int - 1).toNat).take (((mA s l).length : Int) - (((mR s l).nth 2).int - 1)).toNat = lst (mR s l) (cap (mR s l)) := by
  have I := made_all s l
  have hI : chk (mR s l) = 0 := I.ok
  have hb := badR_false (chk_bad hI)
  obtain ⟨hc1, hc, hc2⟩ := cap_le (chk_bad hI)
  have hX : ((mR s l).nth 3).int = ((mA s l).length : Int) + 1 := I.nxt
  have hE : ∀ k, k < cap (mR s l) → evAt (mR s l) k = (mA s l).getD (((mR s l).nth 2).int.toNat - 1 + k) .Z := I.ev
  apply List.ext_getElem?
  intro j
  by_cases hj : j < cap (mR s l)
  · have e1 : (lst (mR s l) (cap (mR s l)))[j]? = some (evAt (mR s l) j) := by simp [lst, hj]
    rw [e1, hE j hj, List.getElem?_take, if_pos (by omega), List.getElem?_drop, List.getD_eq_getElem?_getD, show (((mR s l).nth 2).int - 1).toNat = ((mR s l).nth 2).int.toNat - 1 by omega,
      List.getElem?_eq_getElem (by omega)]
    rfl
  · have e1 : (lst (mR s l) (cap (mR s l)))[j]? = none := by rw [List.getElem?_eq_none]; rw [lst_len]; omega
    rw [e1, List.getElem?_eq_none]
    rw [List.length_take, List.length_drop]; omega
theorem keeps_fun : FunOK cLaw 100 Try.f7 sKeeps := fun s _ l _ no _ _ => by
  have I := made_all s.int l.list
  have hN : madeN l.list ≤ 40 := by unfold madeN; omega
  have hI : chk (mR s.int l.list) = 0 := I.ok
  have hX : ((mR s.int l.list).nth 3).int = ((mA s.int l.list).length : Int) + 1 := I.nxt
  have hL : (mA s.int l.list).length ≤ madeN l.list := I.len
  have hE : ∀ k, k < cap (mR s.int l.list) → evAt (mR s.int l.list) k = (mA s.int l.list).getD (((mR s.int l.list).nth 2).int.toNat - 1 + k) .Z := I.ev
  have hb := badR_false (chk_bad hI)
  obtain ⟨hc1, hc, hc2⟩ := cap_le (chk_bad hI)
  have w1 : IntKind.u64.wrap (IntKind.i64.wrap (((mA s.int l.list).length : Int) + 1)) = ((mA s.int l.list).length : Int) + 1 := by rw [wrap_i64 (by omega) (by omega), wrap_u64 (by omega) (by omega)]
  have w2 : IntKind.u64.wrap (((mR s.int l.list).nth 2).int - 1) = ((mR s.int l.list).nth 2).int - 1 := wrap_u64 (by omega) (by omega)
  have hk := modI_range (a := no.int) (n := ((mA s.int l.list).length : Int) + 2) (by omega) (by omega)
  have w3 : IntKind.u64.wrap (modI no.int (IntKind.i64.wrap (((mA s.int l.list).length : Int) + 2))) = modI no.int (((mA s.int l.list).length : Int) + 2) := by rw [wrap_i64 (by omega) (by omega), wrap_u64 (by omega) (by omega)]
  have hln : lnI (mR s.int l.list) = cap (mR s.int l.list) := by simp only [lnI, hI, ne_eq, not_true, if_false]; exact lenI_eq (chk_bad hI)
  have hfl : frL (mR s.int l.list) 0 = lst (mR s.int l.list) (cap (mR s.int l.list)) := by
    simp only [frL, hI, ne_eq, not_true, if_false]; exact fromL_zero (chk_bad hI)
  have hml := made_list s.int l.list
  generalize hk' : modI no.int (((mA s.int l.list).length : Int) + 2) = k at *
  have hin : (ltB (IntKind.u64.wrap (modI no.int (IntKind.i64.wrap (((mA s.int l.list).length : Int) + 2)))) ((mR s.int l.list).nth 2).int || leB ((mR s.int l.list).nth 3).int (IntKind.u64.wrap (modI no.int (IntKind.i64.wrap (((mA s.int l.list).length : Int) + 2))))) = false → ((mR s.int l.list).nth 2).int ≤ k ∧ k < ((mR s.int l.list).nth 3).int := by
    intro h
    rw [w3] at h
    simpa only [Bool.or_eq_false_iff, ltB_false, leB_false] using h
  refine ⟨fun h1 => ?_, fun h1 => ⟨fun h2 => ⟨?_, ?_, ?_⟩, fun h2 => ?_, fun h2 => ⟨fun h3 => Bears.bool ?_, fun h3 => ⟨fun h4 => ⟨?_, ?_⟩, by kernel_rfl, Bears.bool ?_⟩⟩⟩⟩
  · exfalso
    simp only [D.int_I, D.bool_B, D.gets_nil, D.gets_fld, List.nil_append, D.list_L, w1, hX, bne_self_eq_false, Bool.not_true, Bool.or_eq_true, ltB_true] at h1
    rw [hX] at hb
    simp only [Bool.false_eq_true, false_or] at h1
    omega
  · show 0 ≤ IntKind.u64.wrap (((mR s.int l.list).nth 2).int - 1)
    omega
  · show IntKind.u64.wrap (((mR s.int l.list).nth 2).int - 1) ≤ ((mA s.int l.list).length : Int)
    omega
  · exact Int.le_refl _
  · exfalso
    simp only [D.int_I, D.bool_B, D.gets_nil, D.gets_fld, List.nil_append, D.list_L, w2, hI, hln, hfl, hml, lst_len, sameB_rfl, bne_self_eq_false, Bool.not_true, Bool.or_eq_true, ltB_true] at h2
    simp only [Bool.false_eq_true, false_or, or_false] at h2
    omega
  · replace h3 : (ltB (IntKind.u64.wrap (modI no.int (IntKind.i64.wrap (((mA s.int l.list).length : Int) + 2)))) ((mR s.int l.list).nth 2).int || leB ((mR s.int l.list).nth 3).int (IntKind.u64.wrap (modI no.int (IntKind.i64.wrap (((mA s.int l.list).length : Int) + 2))))) = true := h3
    show (true && getE (mR s.int l.list) (IntKind.u64.wrap (modI no.int (IntKind.i64.wrap (((mA s.int l.list).length : Int) + 2)))) == 7 && eqD storedS (getD' (mR s.int l.list) (IntKind.u64.wrap (modI no.int (IntKind.i64.wrap (((mA s.int l.list).length : Int) + 2))))) (D0 storedS)) = true
    rw [w3] at h3 ⊢
    have e : getE (mR s.int l.list) k = 7 := by simp only [getE, hI, ne_eq, not_true, if_false, h3, if_true]
    simp only [e, getD']
    rw [if_pos (by decide)]
    rw [eqStored]; rfl
  · have h := hin h3
    show 0 ≤ IntKind.u64.wrap (IntKind.u64.wrap (modI no.int (IntKind.i64.wrap (((mA s.int l.list).length : Int) + 2))) - 1)
    rw [w3, wrap_u64 (by omega) (by omega)]; omega
  · have h := hin h3
    show IntKind.u64.wrap (IntKind.u64.wrap (modI no.int (IntKind.i64.wrap (((mA s.int l.list).length : Int) + 2))) - 1) < ((mA s.int l.list).length : Int)
    rw [w3, wrap_u64 (by omega) (by omega)]; omega
  · have h := hin h3
    clear h3
    have h3 : (ltB k ((mR s.int l.list).nth 2).int || leB ((mR s.int l.list).nth 3).int k) = false := by
      simp only [Bool.or_eq_false_iff, ltB_false, leB_false]; exact h
    show (true && getE (mR s.int l.list) (IntKind.u64.wrap (modI no.int (IntKind.i64.wrap (((mA s.int l.list).length : Int) + 2)))) == 0 && eqD storedS (getD' (mR s.int l.list) (IntKind.u64.wrap (modI no.int (IntKind.i64.wrap (((mA s.int l.list).length : Int) + 2))))) ((mA s.int l.list).getD (IntKind.u64.wrap (IntKind.u64.wrap (modI no.int (IntKind.i64.wrap (((mA s.int l.list).length : Int) + 2))) - 1)).toNat .Z)) = true
    rw [w3]
    rw [wrap_u64 (n := k - 1) (by omega) (by omega)]
    have e : getE (mR s.int l.list) k = 0 := by simp only [getE, hI, ne_eq, not_true, if_false, h3, Bool.false_eq_true]
    have e2 : getD' (mR s.int l.list) k = (mA s.int l.list).getD (k - 1).toNat .Z := by
      have hj : (k - ((mR s.int l.list).nth 2).int).toNat < cap (mR s.int l.list) := by omega
      have := hE _ hj
      simp only [getD', e, ne_eq, not_true, if_false]
      rw [show (k - 1).toNat = ((mR s.int l.list).nth 2).int.toNat - 1 + (k - ((mR s.int l.list).nth 2).int).toNat by omega, ← this]
      show _ = ((mR s.int l.list).nth 4).nth (placeI ((mR s.int l.list).nth 1).int (((mR s.int l.list).nth 2).int + ((k - ((mR s.int l.list).nth 2).int).toNat : Int))).toNat
      rw [show ((mR s.int l.list).nth 2).int + ((k - ((mR s.int l.list).nth 2).int).toNat : Int) = k by omega]
    rw [e, e2, eqStored]; rfl
theorem keeps_ok : SumOK Try.prog 7 sKeeps := sumOK_of_vc (c := cLaw) (ctxMOK (.cons mod_ok (.cons made_ok2 (.cons known_ok (.cons evict_ok2 (.cons put_ok' (.cons lost_ok (.cons from_ok2 (.cons list_ok2 (.cons len_ok2 (.cons get_ok (.cons same_ok .nil)))))))))))) mixed Try.func7 rfl (by decide) @keeps_fun
end Go.Proofs.Ytlmokgfjfogdoaa
