/- Stores in plain Lean: rings that differ in their events' arrival alone. -/
import Derived.Test.YtelemmagiagohaaWTv
namespace Go.Proofs.Ytelemmagiagohaa
open Go Go.Vm Rg
set_option linter.unusedSimpArgs false
set_option linter.unusedVariables false
set_option maxRecDepth 10000
structure SimE (a b : D) : Prop where
  lab : lbS a = lbS b
  no : noS a = noS b
  tk : tkO a = tkO b
  kd : (a.nth 3).int = (b.nth 3).int
  val : (a.nth 4).int = (b.nth 4).int
theorem SimE.rfl {a : D} : SimE a a := ⟨Eq.refl _, Eq.refl _, Eq.refl _, Eq.refl _, Eq.refl _⟩
structure SimR (r q : D) : Prop where
  h0 : (r.nth 0).int = (q.nth 0).int
  h1 : (r.nth 1).int = (q.nth 1).int
  h2 : (r.nth 2).int = (q.nth 2).int
  h3 : (r.nth 3).int = (q.nth 3).int
  ev : ∀ j, j < 64 → SimE ((r.nth 4).nth j) ((q.nth 4).nth j)
theorem SimR.rfl {r : D} : SimR r r := ⟨Eq.refl _, Eq.refl _, Eq.refl _, Eq.refl _, fun _ _ => SimE.rfl⟩
theorem SimR.cap {r q : D} (h : SimR r q) : cap r = cap q := by rw [Rg.cap, Rg.cap, h.h2, h.h3]
theorem SimR.pl {r q : D} (h : SimR r q) (i : Nat) : pl r i = pl q i := by rw [Rg.pl, Rg.pl, h.h1, h.h2]
theorem SimR.put {r q x y : D} (h : SimR r q) (he : SimE x y) : SimR (putD r x) (putD q y) := by
  have a := putD_0 r x
  have b := putD_0 q y
  refine ⟨by rw [a.1, b.1]; exact h.h0, by rw [a.2.1, b.2.1]; exact h.h1, by rw [a.2.2.1, b.2.2.1]; exact h.h2, by rw [a.2.2.2, b.2.2.2, h.h3], fun j hj => ?_⟩
  rw [putD_4, putD_4, h.h1, h.h3]
  split
  · exact he
  · exact h.ev j hj
theorem SimR.evict {r q : D} (h : SimR r q) : ∀ n, SimR (evR r n) (evR q n)
  | 0 => h
  | n + 1 => by
    have ih := SimR.evict h n
    have a := evR_0 r (n + 1)
    have b := evR_0 q (n + 1)
    refine ⟨by rw [a.1, b.1]; exact h.h0, by rw [a.2.1, b.2.1]; exact h.h1, by rw [a.2.2.2, b.2.2.2, h.h2], by rw [a.2.2.1, b.2.2.1]; exact h.h3, fun j hj => ?_⟩
    rw [evR_4, evR_4, h.pl]
    split
    · exact SimE.rfl
    · exact ih.ev j hj
theorem SimR.old {r q : D} (h : SimR r q) (hb : badR r = false) (now hor : Int) : evN r now hor = evN q now hor := by
  have hc := cap_le hb
  have hpl : ∀ i, i ≤ Rg.cap r → Rg.pl r i < 64 := fun i hi => pl_lt hb hi
  rw [evN, evN, ← h.cap]
  have key : ∀ m i, i + m ≤ Rg.cap r → cntUp (oldB r now hor) m i = cntUp (oldB q now hor) m i := by
    intro m
    induction m with
    | zero => intro i _; rfl
    | succ m ih =>
      intro i hi
      have e : oldB r now hor i = oldB q now hor i := by
        have := (h.ev (Rg.pl r i) (hpl i (by omega))).tk
        simp only [tkO] at this
        simp only [oldB, evAt, ← h.pl i, this]
      simp only [cntUp, e, ih (i + 1) (by omega)]
  exact key _ _ (by omega)
end Go.Proofs.Ytelemmagiagohaa
