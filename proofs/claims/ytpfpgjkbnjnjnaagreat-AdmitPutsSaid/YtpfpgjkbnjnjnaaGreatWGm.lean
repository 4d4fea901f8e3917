/- Accounts of rings: the reference's Put and Evict, 'RingPuts'. -/
import Derived.Test.YtpfpgjkbnjnjnaaGreatWGg
namespace Go.Proofs.YtpfpgjkbnjnjnaaGreat.Rg
open Go Go.Vm
set_option linter.unusedSimpArgs false
set_option maxRecDepth 10000

theorem evF_new (r : D) (o t k v : Int) (b : D) : evF (r.nth 0).int (r.nth 3).int (newD r o t k v) b =
    if (ltB k 0 || ltB 25 k) = true then 11 else if (ltB o 1 || ltB 1099511627776 o || ltB 1099511627776 t) = true then 2 else if (leB o (b.nth 1).int || ltB t (b.nth 2).int) = true then 9 else 0 := by
  have h : eqD idS ((newD r o t k v).nth 0) (idD (r.nth 0).int (r.nth 3).int) = true := by simp [eqD, eqDs, newD, idD]
  simp only [evF, h, Bool.true_eq_false, if_false]; rfl
theorem bef_new {r : D} {o t : Int} (ht : 0 ≤ t) (h3 : (ltB o 1 || ltB 1099511627776 o || ltB 1099511627776 t) = false) :
    (ltB 0 (cap r : Int) && (leB o ((evAt r (cap r - 1)).nth 1).int || ltB t ((evAt r (cap r - 1)).nth 2).int)) = (leB o ((bef r (cap r)).nth 1).int || ltB t ((bef r (cap r)).nth 2).int) := by
  by_cases h : cap r = 0
  · rw [h]
    have e1 : leB o ((bef r 0).nth 1).int = false := by
      simp only [Bool.or_eq_false_iff, ltB_false] at h3
      simp only [leB_false]
      show (0 : Int) < o
      omega
    have e2 : ltB t ((bef r 0).nth 2).int = false := by
      simp only [ltB_false]
      exact ht
    rw [e1, e2]; rfl
  · obtain ⟨n, hn⟩ : ∃ n, cap r = n + 1 := ⟨cap r - 1, by omega⟩
    rw [hn]
    have e : ltB 0 ((n + 1 : Nat) : Int) = true := by simp only [ltB_true]; omega
    rw [e, Bool.true_and]; rfl
theorem putR_fun : FunOK cLenR 100 Tryz.f117 sPut := fun r _ o _ t ht k _ v _ _ => by
  refine ⟨fun h1 => ⟨Bears.same ?_, Bears.int ?_, trivial⟩, fun h1 => ⟨?_, fun h2 => ⟨Bears.same ?_, Bears.int ?_, trivial⟩, fun h2 => ⟨fun h3 => ⟨Bears.same ?_, Bears.int ?_, trivial⟩, fun h3 => ⟨?_, ?_, fun h4 => ⟨Bears.same ?_, Bears.int ?_, trivial⟩, fun h4 => ⟨fun h5 => ⟨Bears.same ?_, Bears.int ?_, trivial⟩, fun h5 => ⟨?_, ?_, by kernel_rfl, Bears.same ?_, Bears.int ?_, trivial⟩⟩⟩⟩⟩⟩
  all_goals replace h1 : (chk r != 0) = _ := h1
  all_goals simp only [bne_iff_ne, ne_eq, bne_eq_false_iff_eq] at h1
  · have e : putE r o.int t.int k.int v.int ≠ 0 := by simp [putE, h1]
    show Same ringS (D0 ringS) (putR r o.int t.int k.int v.int)
    simp only [putR, if_pos e]; exact Same.rfl
  · show chk r = putE r o.int t.int k.int v.int
    simp [putE, h1]
  all_goals have hbad := chk_bad h1
  · exact hbad
  all_goals have hb := badR_false hbad
  all_goals obtain ⟨hc1, hc, hc2⟩ := cap_le hbad
  all_goals have hE := evF_new r o.int t.int k.int v.int (bef r (cap r))
  all_goals try replace h2 : (ltB k.int 0 || ltB 25 k.int) = _ := h2
  all_goals rw [h2] at hE
  all_goals try simp only [if_true, Bool.false_eq_true, if_false] at hE
  · exact (put_err o.int t.int k.int v.int h1 (by rw [hE]; rfl)).1
  · exact hE.symm.trans (put_err o.int t.int k.int v.int h1 (by rw [hE]; rfl)).2
  all_goals replace h3 : (ltB o.int 1 || ltB 1099511627776 o.int || ltB 1099511627776 t.int) = _ := h3
  all_goals rw [h3] at hE
  all_goals try simp only [if_true, Bool.false_eq_true, if_false] at hE
  · exact (put_err o.int t.int k.int v.int h1 (by rw [hE]; rfl)).1
  · exact hE.symm.trans (put_err o.int t.int k.int v.int h1 (by rw [hE]; rfl)).2
  all_goals have hwm : IntKind.i64.wrap (((lst r (cap r)).length : Int) - 1) = (cap r : Int) - 1 := (by rw [lst_len]; exact wrap_i64 (by omega) (by omega))
  · intro hk
    replace hk : ltB 0 ((lst r (cap r)).length : Int) = true := hk
    show 0 ≤ IntKind.i64.wrap (((lst r (cap r)).length : Int) - 1) ∧ IntKind.i64.wrap (((lst r (cap r)).length : Int) - 1) < ((lst r (cap r)).length : Int)
    rw [hwm]
    rw [lst_len] at hk ⊢
    simp only [ltB_true] at hk
    omega
  · intro hk
    replace hk : ltB 0 ((lst r (cap r)).length : Int) = true := hk.2
    show 0 ≤ IntKind.i64.wrap (((lst r (cap r)).length : Int) - 1) ∧ IntKind.i64.wrap (((lst r (cap r)).length : Int) - 1) < ((lst r (cap r)).length : Int)
    rw [hwm]
    rw [lst_len] at hk ⊢
    simp only [ltB_true] at hk
    omega
  all_goals replace h4 : (ltB 0 ((lst r (cap r)).length : Int) && (leB o.int (((lst r (cap r)).getD (IntKind.i64.wrap (((lst r (cap r)).length : Int) - 1)).toNat .Z).nth 1).int || ltB t.int (((lst r (cap r)).getD (IntKind.i64.wrap (((lst r (cap r)).length : Int) - 1)).toNat .Z).nth 2).int)) = _ := h4
  all_goals have e4 : (ltB 0 ((lst r (cap r)).length : Int) && (leB o.int (((lst r (cap r)).getD (IntKind.i64.wrap (((lst r (cap r)).length : Int) - 1)).toNat .Z).nth 1).int || ltB t.int (((lst r (cap r)).getD (IntKind.i64.wrap (((lst r (cap r)).length : Int) - 1)).toNat .Z).nth 2).int)) = (ltB 0 (cap r : Int) && (leB o.int ((evAt r (cap r - 1)).nth 1).int || ltB t.int ((evAt r (cap r - 1)).nth 2).int)) := (by
    by_cases h0 : cap r = 0
    · rw [hwm, lst_len, h0]; rfl
    · have hx : (lst r (cap r)).getD ((cap r : Int) - 1).toNat .Z = evAt r (cap r - 1) := (by
        have : ((cap r : Int) - 1).toNat = cap r - 1 := by omega
        rw [this, List.getD_eq_getElem?_getD]
        exact lst_get r _ _ (by omega))
      rw [hwm, hx, lst_len])
  all_goals rw [e4, bef_new ht.1 h3] at h4
  all_goals rw [h4] at hE
  all_goals try simp only [if_true, Bool.false_eq_true, if_false] at hE
  · exact (put_err o.int t.int k.int v.int h1 (by rw [hE]; rfl)).1
  · exact hE.symm.trans (put_err o.int t.int k.int v.int h1 (by rw [hE]; rfl)).2
  all_goals replace h5 : (((lst r (cap r)).length : Int) == (r.nth 1).int || (r.nth 3).int == 1099511627777) = _ := h5
  all_goals have e5 : ((r.nth 3).int == 1099511627777) = ltB 1099511627776 (r.nth 3).int := (by
    rw [Bool.eq_iff_iff]
    simp only [beq_iff_eq, ltB_true]
    omega)
  all_goals rw [lst_len, e5] at h5
  all_goals have hE' : (evF (r.nth 0).int (r.nth 3).int (newD r o.int t.int k.int v.int) (bef r (cap r)) != 0) = false := (by rw [hE]; rfl)
  · exact (put_full o.int t.int k.int v.int h1 hE' h5).1
  · exact (put_full o.int t.int k.int v.int h1 hE' h5).2
  · show IntKind.u64.wrap (r.nth 1).int ≠ 0
    rw [wrap_u64 (by omega) (by omega)]; omega
  · have hp2 := placeI_lt (no := (r.nth 3).int) hb.1 hb.2.1 (by omega) (by omega)
    show 0 ≤ placeI (r.nth 1).int (r.nth 3).int ∧ placeI (r.nth 1).int (r.nth 3).int < ((64 : Nat) : Int)
    omega
  · have hw2 : IntKind.u64.wrap ((r.nth 3).int + 1) = (r.nth 3).int + 1 := wrap_u64 (by omega) (by omega)
    have fin2 : D.puts ringS (D.puts ringS r [.fld 4, .idx (placeI (r.nth 1).int (r.nth 3).int).toNat] (newD r o.int t.int k.int v.int)) [.fld 3] (.I (IntKind.u64.wrap ((r.nth 3).int + 1))) = putD r (newD r o.int t.int k.int v.int) := by rw [hw2]; rfl
    have fin : ∀ d : D, d = putD r (newD r o.int t.int k.int v.int) → putR r o.int t.int k.int v.int = putD r (newD r o.int t.int k.int v.int) → Same ringS d (putR r o.int t.int k.int v.int) := fun d e1 e2 => by rw [e1, e2]; exact Same.rfl
    exact fin _ fin2 (put_ok o.int t.int k.int v.int h1 hE' h5).1
  · exact (put_ok o.int t.int k.int v.int h1 hE' h5).2.symm
end Go.Proofs.YtpfpgjkbnjnjnaaGreat.Rg
