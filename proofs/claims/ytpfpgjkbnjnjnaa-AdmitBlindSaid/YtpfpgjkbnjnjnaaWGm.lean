/- Accounts of rings: the reference's Put and Evict, 'RingPuts'. -/
import Derived.Test.YtpfpgjkbnjnjnaaWGg
namespace Go.Proofs.Ytpfpgjkbnjnjnaa.Rg
open Go Go.Vm
set_option linter.unusedSimpArgs false
set_option maxRecDepth 10000

theorem evF_new (r : D) (o t k v : Int) (b : D) : evF (r.nth 0).int (r.nth 3).int (newD r o t k v) b =
    if (ltB k 0 || ltB 25 k) = true then 11 else if (ltB o 1 || ltB 1099511627776 o || ltB 1099511627776 t) = true then 2 else if (leB o (b.nth 1).int || ltB t (b.nth 2).int) = true then 9 else 0 := by
  have h : eqD idS ((newD r o t k v).nth 0) (idD (r.nth 0).int (r.nth 3).int) = true := by simp [eqD, eqDs, newD, idD]
  simp only [evF, h, Bool.true_eq_false, if_false]; rfl
theorem bef_new {r : D} {o t : Int} (ht : 0 ≤ t) (h3 : (ltB o 1 || ltB 1099511627776 o || ltB 1099511627776 t) = false) :
    (ltB 0 (cap r : Int) && (leB o ((evAt r (cap r - 1)).nth 1).int || ltB t ((evAt r (cap r - 1)).nth 2).int)) = (leB o ((bef r (cap r)).nth 1).int || ltB t ((bef r (cap r)).nth 2).int) := by
  by_cases h : cap r = 0
  · rw [h]
    have e1 : leB o ((bef r 0).nth 1).int = false := by
      simp only [Bool.or_eq_false_iff, ltB_false] at h3
      simp only [leB_false]
      show (0 : Int) < o
      omega
    have e2 : ltB t ((bef r 0).nth 2).int = false := by
      simp only [ltB_false]
      exact ht
    rw [e1, e2]; rfl
  · obtain ⟨n, hn⟩ : ∃ n, cap r = n + 1 := ⟨cap r - 1, by omega⟩
    rw [hn]
    have e : ltB 0 ((n + 1 : Nat) : Int) = true := by simp only [ltB_true]; omega
    rw [e, Bool.true_and]; rfl
end Go.Proofs.Ytpfpgjkbnjnjnaa.Rg
