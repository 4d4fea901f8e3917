/- Rings, in plain Lean: what the law's 'made' does, round by round. -/
import Derived.Test.YtlmokgfjfogdoaaGq
namespace Go.Proofs.Ytlmokgfjfogdoaa
open Go Go.Vm
set_option linter.unusedSimpArgs false
set_option maxRecDepth 10000

/-- What 'made' holds: the ring, all that was put, the order, the tick. -/
structure St where
  r : D
  all : List D
  ord : Int
  now : Int
structure InvSt (sz : Int) (i : Nat) (s : St) : Prop where
  ok : chk s.r = 0
  lab : (s.r.nth 0).int = 2
  siz : (s.r.nth 1).int = sz
  nxt : (s.r.nth 3).int = s.all.length + 1
  len : s.all.length ≤ i
  ev : ∀ k, k < cap s.r → evAt s.r k = s.all.getD ((s.r.nth 2).int.toNat - 1 + k) .Z
  ord0 : 0 ≤ s.ord ∧ s.ord ≤ 4 * i
  now0 : 0 ≤ s.now ∧ s.now ≤ 2 * i
  last : ((bef s.r (cap s.r)).nth 1).int ≤ s.ord ∧ ((bef s.r (cap s.r)).nth 2).int ≤ s.now
def putSt (s : St) (o k v : Int) : St := ⟨putD s.r (newD s.r o s.now k v), s.all ++ [newD s.r o s.now k v], o, s.now⟩
theorem put_inv {sz : Int} {i : Nat} {s : St} (I : InvSt sz i s) (hi : i < 40) (hf : (cap s.r : Int) ≠ (s.r.nth 1).int) {o k v : Int} (ho : s.ord < o) (ho4 : o ≤ s.ord + 4) (hk : 0 ≤ k) (hk2 : k ≤ 25) :
    putE s.r o s.now k v = 0 ∧ InvSt sz (i + 1) (putSt s o k v) := by
  have hbad := chk_bad I.ok
  have hb := badR_false hbad
  obtain ⟨hc1, hc, hc2⟩ := cap_le hbad
  have h1 := I.nxt
  have h2 := I.len
  have h3 := I.ord0
  have h4 := I.now0
  have h5 := I.last
  have hE : evF (s.r.nth 0).int (s.r.nth 3).int (newD s.r o s.now k v) (bef s.r (cap s.r)) = 0 := by
    have h : eqD idS ((newD s.r o s.now k v).nth 0) (idD (s.r.nth 0).int (s.r.nth 3).int) = true := by simp [eqD, eqDs, newD, idD]
    have g2 : (ltB k 0 || ltB 25 k) = false := by simp only [Bool.or_eq_false_iff, ltB_false]; omega
    have g3 : (ltB o 1 || ltB 1099511627776 o || ltB 1099511627776 s.now) = false := by simp only [Bool.or_eq_false_iff, ltB_false]; omega
    have g4 : (leB o ((bef s.r (cap s.r)).nth 1).int || ltB s.now ((bef s.r (cap s.r)).nth 2).int) = false := by simp only [Bool.or_eq_false_iff, leB_false, ltB_false]; omega
    simp only [evF, h, Bool.true_eq_false, if_false]
    show (if (ltB k 0 || ltB 25 k) = true then (11 : Int) else if (ltB o 1 || ltB 1099511627776 o || ltB 1099511627776 s.now) = true then 2 else if (leB o ((bef s.r (cap s.r)).nth 1).int || ltB s.now ((bef s.r (cap s.r)).nth 2).int) = true then 9 else 0) = 0
    rw [g2, g3, g4]; rfl
  have hcap := cap_putD hbad (newD s.r o s.now k v)
  refine ⟨(put_tail o s.now k v I.ok hE ?_).1, ?_⟩
  · simp only [Bool.or_eq_false_iff, ltB_false, beq_eq_false_iff_ne, ne_eq]
    exact ⟨hf, by omega⟩
  refine { ok := chk_putD I.ok (by omega) (by omega) hE, lab := I.lab, siz := I.siz, nxt := ?_, len := ?_, ev := ?_, ord0 := ?_, now0 := ?_, last := ?_ }
  · show (s.r.nth 3).int + 1 = ((s.all ++ [_]).length : Int) + 1
    simp only [List.length_append, List.length_cons, List.length_nil]; omega
  · show (s.all ++ [_]).length ≤ i + 1
    simp only [List.length_append, List.length_cons, List.length_nil]; omega
  · intro j hj
    rw [show (putSt s o k v).r = putD s.r (newD s.r o s.now k v) from rfl] at hj ⊢
    rw [hcap] at hj
    show evAt (putD s.r (newD s.r o s.now k v)) j = (s.all ++ [newD s.r o s.now k v]).getD ((s.r.nth 2).int.toNat - 1 + j) .Z
    rcases Nat.lt_or_eq_of_le (Nat.le_of_lt_succ hj) with hlt | rfl
    · rw [evAt_putD hbad (by omega) _ hlt, I.ev j hlt, List.getD_eq_getElem?_getD, List.getD_eq_getElem?_getD, List.getElem?_append_left (by omega)]
    · rw [evAt_putD_cap hbad, List.getD_eq_getElem?_getD, show (s.r.nth 2).int.toNat - 1 + cap s.r = s.all.length by omega]
      simp
  · show 0 ≤ o ∧ o ≤ 4 * ((i + 1 : Nat) : Int)
    omega
  · show 0 ≤ s.now ∧ s.now ≤ 2 * ((i + 1 : Nat) : Int)
    omega
  · rw [show (putSt s o k v).r = putD s.r (newD s.r o s.now k v) from rfl, hcap]
    have e : bef (putD s.r (newD s.r o s.now k v)) (cap s.r + 1) = newD s.r o s.now k v := evAt_putD_cap hbad _
    rw [e]
    exact ⟨Int.le_refl _, Int.le_refl _⟩
theorem cntUp_le {p : Nat → Bool} : ∀ {m i : Nat}, cntUp p m i ≤ m
  | 0, _ => Nat.le_refl _
  | m + 1, i => by
    have := cntUp_le (p := p) (m := m) (i := i + 1)
    simp only [cntUp]; split <;> omega
def evSt (s : St) (t : Int) : St := ⟨evR s.r (evN s.r t 3), s.all, s.ord, t⟩
theorem ev_inv {sz : Int} {i : Nat} {s : St} (I : InvSt sz i s) (hi : i < 40) {t : Int} (ht : s.now ≤ t) (ht2 : t ≤ s.now + 2) : evE s.r t 3 = 0 ∧ InvSt sz (i + 1) (evSt s t) := by
  have hbad := chk_bad I.ok
  have hb := badR_false hbad
  obtain ⟨hc1, hc, hc2⟩ := cap_le hbad
  have h1 := I.nxt
  have h2 := I.len
  have h3 := I.ord0
  have h4 := I.now0
  have h5 := I.last
  have hn : evN s.r t 3 ≤ cap s.r := cntUp_le
  obtain ⟨e0, e1, e3, e2⟩ := evR_0 s.r (evN s.r t 3)
  have hcap := cap_evR hn
  refine ⟨?_, ?_⟩
  · have g : (ltB 1099511627776 t || ltB 3 1 || ltB 10000 3) = false := by simp only [Bool.or_eq_false_iff, ltB_false]; omega
    simp only [evE, I.ok, g]; rfl
  refine { ok := chk_evR I.ok hn, lab := ?_, siz := ?_, nxt := ?_, len := ?_, ev := ?_, ord0 := ?_, now0 := ?_, last := ?_ }
  · show ((evR s.r (evN s.r t 3)).nth 0).int = 2
    rw [e0]; exact I.lab
  · show ((evR s.r (evN s.r t 3)).nth 1).int = sz
    rw [e1]; exact I.siz
  · show ((evR s.r (evN s.r t 3)).nth 3).int = s.all.length + 1
    rw [e3]; exact I.nxt
  · show s.all.length ≤ i + 1
    omega
  · intro k hk
    replace hk : k < cap (evR s.r (evN s.r t 3)) := hk
    rw [hcap] at hk
    show evAt (evR s.r (evN s.r t 3)) k = s.all.getD (((evR s.r (evN s.r t 3)).nth 2).int.toNat - 1 + k) .Z
    rw [evAt_evR hbad (by omega), I.ev _ (by omega), e2]
    congr 1; omega
  · show 0 ≤ s.ord ∧ s.ord ≤ 4 * ((i + 1 : Nat) : Int)
    omega
  · show 0 ≤ t ∧ t ≤ 2 * ((i + 1 : Nat) : Int)
    omega
  · show ((bef (evR s.r (evN s.r t 3)) (cap (evR s.r (evN s.r t 3)))).nth 1).int ≤ s.ord ∧ ((bef (evR s.r (evN s.r t 3)) (cap (evR s.r (evN s.r t 3)))).nth 2).int ≤ t
    rw [hcap]
    by_cases h0 : cap s.r - evN s.r t 3 = 0
    · rw [h0]
      show (0 : Int) ≤ s.ord ∧ (0 : Int) ≤ t
      omega
    · obtain ⟨m, hm⟩ : ∃ m, cap s.r - evN s.r t 3 = m + 1 := ⟨cap s.r - evN s.r t 3 - 1, by omega⟩
      have e : bef (evR s.r (evN s.r t 3)) (m + 1) = bef s.r (cap s.r) := by
        show evAt (evR s.r (evN s.r t 3)) m = _
        rw [evAt_evR hbad (by omega), show cap s.r = evN s.r t 3 + m + 1 by omega]; rfl
      rw [hm, e]
      omega
end Go.Proofs.Ytlmokgfjfogdoaa
