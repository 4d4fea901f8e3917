/- Heights of families of labels, in plain Lean. -/
import Derived.Test.YtohgdncglegjmaaWLf
namespace Go.Proofs.Ytohgdncglegjmaa
open Go Go.Vm
set_option linter.unusedSimpArgs false
set_option linter.unusedVariables false
set_option maxRecDepth 10000
def pcI (x : Int) : Nat := pc 64 x.toNat
def InU (x : Int) : Prop := 0 ≤ x ∧ x ≤ 18446744073709551615
theorem bv_toNat {x : Int} (h : InU x) : (bv x).toNat = x.toNat := by
  rw [BitVec.toNat_ofInt, Int.emod_eq_of_lt h.1 (by have := h.2; omega)]
theorem below_land {a b : Int} (ha : InU a) (hb : InU b) (h : belowB a b = true) : a.toNat &&& b.toNat = a.toNat := by
  rw [belowB_iff] at h
  have e : bv a &&& bv b = bv a := by
    apply BitVec.eq_of_getLsbD_eq
    intro i hi
    rw [BitVec.getLsbD_and]
    cases hx : (bv a).getLsbD i
    · rfl
    · rw [h i hi hx]; rfl
  have := congrArg BitVec.toNat e
  rwa [BitVec.toNat_and, bv_toNat ha, bv_toNat hb] at this
theorem less_pc {a b : Int} (ha : InU a) (hb : InU b) (h : lessI a b = true) : pcI a < pcI b := by
  rw [lessI, Bool.and_eq_true] at h
  have h1 := pc_le 64 a.toNat b.toNat (below_land ha hb h.2)
  rcases Nat.lt_or_eq_of_le h1.1 with h2 | h2
  · exact h2
  · have h3 := h1.2 h2
    have a1 := ha.1; have a2 := ha.2; have b1 := hb.1; have b2 := hb.2
    rw [Nat.mod_eq_of_lt (by omega), Nat.mod_eq_of_lt (by omega)] at h3
    have : a = b := by omega
    exact absurd this (bneT h.1)
theorem pcI_le (x : Int) : pcI x ≤ 64 := pc_bound 64 _
/-- r is the greatest of m and of the numbers with a property. -/
structure IsMx (p : Nat → Prop) (m r : Nat) : Prop where
  lo : m ≤ r
  up : ∀ v, p v → v ≤ r
  is : r = m ∨ p r
theorem IsMx.unique {p q : Nat → Prop} {m r s : Nat} (h : IsMx p m r) (k : IsMx q m s) (e : ∀ v, m < v → (p v ↔ q v)) : r = s := by
  have := h.lo; have := k.lo
  apply Nat.le_antisymm
  · rcases h.is with h1 | h1
    · omega
    · by_cases hm : m < r
      · exact k.up _ ((e r hm).1 h1)
      · omega
  · rcases k.is with h1 | h1
    · omega
    · by_cases hm : m < s
      · exact h.up _ ((e s hm).2 h1)
      · omega
theorem IsMx.none {p : Nat → Prop} {m : Nat} (h : ∀ v, ¬p v) : IsMx p m m := ⟨Nat.le_refl _, fun v hv => absurd hv (h v), .inl rfl⟩
theorem IsMx.add {p q : Nat → Prop} {m r w : Nat} (h : IsMx p m r) (e : ∀ v, q v ↔ p v ∨ v = w) : IsMx q m (max r w) := by
  refine ⟨by have := h.lo; omega, fun v hv => ?_, ?_⟩
  · rcases (e v).1 hv with h1 | h1
    · have := h.up v h1; omega
    · omega
  · by_cases hw : r < w
    · right; rw [Nat.max_eq_right (by omega)]; exact (e w).2 (.inr rfl)
    · rw [Nat.max_eq_left (by omega)]
      rcases h.is with h1 | h1
      · exact .inl h1
      · exact .inr ((e r).2 (.inl h1))
theorem IsMx.same {p q : Nat → Prop} {m r : Nat} (h : IsMx p m r) (e : ∀ v, q v ↔ p v) : IsMx q m r :=
  ⟨h.lo, fun v hv => h.up v ((e v).1 hv), h.is.imp id (e r).2⟩
def rk (L : List Int) : Nat → Int → Nat
  | 0, _ => 1
  | n + 1, x => L.foldl (fun m y => if lessI y x = true then max m (rk L n y + 1) else m) 1
theorem fold_mx {c : Int → Bool} {f : Int → Nat} : ∀ {L : List Int} {p : Nat → Prop} {m r : Nat}, IsMx p m r → IsMx (fun v => p v ∨ ∃ y, y ∈ L ∧ c y = true ∧ v = f y) m (L.foldl (fun m y => if c y = true then max m (f y) else m) r)
  | [], p, m, r, h => h.same fun v => by simp
  | y :: L, p, m, r, h => by
    have h1 : IsMx (fun v => p v ∨ (c y = true ∧ v = f y)) m (if c y = true then max r (f y) else r) := by
      split
      · rename_i hc; exact h.add fun v => by simp [hc]
      · rename_i hc; exact h.same fun v => by simp [hc]
    refine (fold_mx (L := L) h1).same fun v => ?_
    constructor
    · rintro (h | ⟨z, hz, h⟩)
      · exact .inl (.inl h)
      · rcases List.mem_cons.1 hz with e | hz
        · subst e; exact .inl (.inr h)
        · exact .inr ⟨z, hz, h⟩
    · rintro ((h | h) | ⟨z, hz, h⟩)
      · exact .inl h
      · exact .inr ⟨y, by simp, h⟩
      · exact .inr ⟨z, by simp [hz], h⟩
theorem rk_mx (L : List Int) (n : Nat) (x : Int) : IsMx (fun v => ∃ y, y ∈ L ∧ lessI y x = true ∧ v = rk L n y + 1) 1 (rk L (n + 1) x) :=
  (fold_mx (L := L) (c := fun y => lessI y x) (f := fun y => rk L n y + 1) (IsMx.none (p := fun _ => False) fun _ h => h)).same fun v => by simp
theorem rk_stable' {L : List Int} (hL : ∀ y, y ∈ L → InU y) : ∀ (n m : Nat) (x : Int), InU x → pcI x < n → pcI x < m → rk L n x = rk L m x := by
  intro n
  induction n with
  | zero => intro m x _ hn; exact absurd hn (Nat.not_lt_zero _)
  | succ n ih =>
    intro m x hx hn hm
    cases m with
    | zero => exact absurd hm (Nat.not_lt_zero _)
    | succ m =>
      refine (rk_mx L n x).unique (rk_mx L m x) fun v _ => ?_
      have e : ∀ y, y ∈ L → lessI y x = true → rk L n y = rk L m y := fun y hy hl => by
        have := less_pc (hL y hy) hx hl
        exact ih m y (hL y hy) (by omega) (by omega)
      constructor
      · rintro ⟨y, hy, hl, h⟩; exact ⟨y, hy, hl, by rw [h, e y hy hl]⟩
      · rintro ⟨y, hy, hl, h⟩; exact ⟨y, hy, hl, by rw [h, e y hy hl]⟩
theorem rk_stable {L : List Int} (hL : ∀ y, y ∈ L → InU y) {n m : Nat} {x : Int} (hx : InU x) (hn : pcI x < n) (hm : pcI x < m) : rk L n x = rk L m x := rk_stable' hL n m x hx hn hm
/-- The greatest number of labels of a chain that ends with x. -/
def hgt (L : List Int) (x : Int) : Nat := rk L 65 x
theorem hgt_mx {L : List Int} (hL : ∀ y, y ∈ L → InU y) {x : Int} (hx : InU x) : IsMx (fun v => ∃ y, y ∈ L ∧ lessI y x = true ∧ v = hgt L y + 1) 1 (hgt L x) := by
  refine (rk_mx L 64 x).same fun v => ?_
  have e : ∀ y, y ∈ L → lessI y x = true → hgt L y = rk L 64 y := fun y hy hl => by
    have h1 := less_pc (hL y hy) hx hl
    have h2 := pcI_le x
    exact rk_stable hL (hL y hy) (by omega) (by omega)
  constructor
  · rintro ⟨y, hy, hl, h⟩; exact ⟨y, hy, hl, by rw [h, e y hy hl]⟩
  · rintro ⟨y, hy, hl, h⟩; exact ⟨y, hy, hl, by rw [h, e y hy hl]⟩
theorem hgt_le {L : List Int} (hL : ∀ y, y ∈ L → InU y) : ∀ (n : Nat) (x : Int), InU x → pcI x < n → hgt L x ≤ n := by
  intro n
  induction n with
  | zero => intro x _ hn; exact absurd hn (Nat.not_lt_zero _)
  | succ n ih =>
    intro x hx hn
    rcases (hgt_mx hL hx).is with h | ⟨y, hy, hl, h⟩
    · omega
    · have := less_pc (hL y hy) hx hl
      have := ih y (hL y hy) (by omega)
      omega
theorem hgt_65 {L : List Int} (hL : ∀ y, y ∈ L → InU y) {x : Int} (hx : InU x) : hgt L x ≤ 65 := hgt_le hL 65 x hx (by have := pcI_le x; omega)
/-- The greatest number of labels of a chain. -/
def top (L : List Int) : Nat := L.foldl (fun m y => if true = true then max m (hgt L y) else m) 0
theorem top_mx (L : List Int) : IsMx (fun v => ∃ y, y ∈ L ∧ v = hgt L y) 0 (top L) :=
  (fold_mx (L := L) (c := fun _ => true) (f := fun y => hgt L y) (IsMx.none (p := fun _ => False) fun _ h => h)).same fun v => by simp
/-- What is less in one list is as high as in another one with the same labels. -/
theorem hgt_congr {L M : List Int} (hL : ∀ y, y ∈ L → InU y) (h : ∀ y, y ∈ L ↔ y ∈ M) : ∀ (n : Nat) (x : Int), InU x → pcI x < n → hgt L x = hgt M x := by
  intro n
  induction n with
  | zero => intro x _ hn; exact absurd hn (Nat.not_lt_zero _)
  | succ n ih =>
    intro x hx hn
    have hM : ∀ y, y ∈ M → InU y := fun y hy => hL y ((h y).2 hy)
    refine (hgt_mx hL hx).unique (hgt_mx hM hx) fun v _ => ?_
    have e : ∀ y, y ∈ L → lessI y x = true → hgt L y = hgt M y := fun y hy hl => by
      have := less_pc (hL y hy) hx hl
      exact ih y (hL y hy) (by omega)
    constructor
    · rintro ⟨y, hy, hl, h1⟩; exact ⟨y, (h y).1 hy, hl, by rw [h1, e y hy hl]⟩
    · rintro ⟨y, hy, hl, h1⟩
      have hy' := (h y).2 hy
      exact ⟨y, hy', hl, by rw [h1, e y hy' hl]⟩
theorem top_congr {L M : List Int} (hL : ∀ y, y ∈ L → InU y) (h : ∀ y, y ∈ L ↔ y ∈ M) : top L = top M := by
  refine (top_mx L).unique (top_mx M) fun v _ => ?_
  have e : ∀ y, y ∈ L → hgt L y = hgt M y := fun y hy => hgt_congr hL h 65 y (hL y hy) (by have := pcI_le y; omega)
  constructor
  · rintro ⟨y, hy, h1⟩; exact ⟨y, (h y).1 hy, by rw [h1, e y hy]⟩
  · rintro ⟨y, hy, h1⟩
    have hy' := (h y).2 hy
    exact ⟨y, hy', by rw [h1, e y hy']⟩
end Go.Proofs.Ytohgdncglegjmaa
