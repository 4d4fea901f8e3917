/- A region that draws its order: what the evaluator has shown of the text's order holds of every order. Part 1: the records. -/
import Derived.Test.YtjcfnooplhoheaaVmU
noncomputable section
namespace Go.Vm
open Go
open Classical

def reAt (R : Nat → Rec) (L : Nat → Bool) : Nat → REnv
  | 0 => []
  | k + 1 => if L k = true then addRe (R k).dst (R k).key (R k).hv (reAt R L k) else reAt R L k
def rhAt (R : Nat → Rec) (L : Nat → Bool) : Nat → RH
  | 0 => []
  | k + 1 => if L k = true then addRh (R k).key (R k).upd (rhAt R L k) else rhAt R L k

def every : Nat → Bool := fun _ => true

theorem lk_addRe {dst : Option Nat} {key : Key} {hv : HV} {re : REnv} {t : Nat} : lk (addRe dst key hv re) t = if dst = some t then some (key, hv) else lk re t := by
  unfold addRe
  split
  · simp
  · rw [lk_cons]; simp

theorem reAt_skip {R : Nat → Rec} {L : Nat → Bool} {t i : Nat} : ∀ (k : Nat), i ≤ k → (∀ j, i ≤ j → j < k → (R j).dst = some t → L j = false) → lk (reAt R L k) t = lk (reAt R L i) t
  | 0, hik, _ => by
    have : i = 0 := by omega
    subst this; rfl
  | k + 1, hik, h => by
    by_cases he : i = k + 1
    · subst he; rfl
    · have ih := reAt_skip k (by omega) fun j h1 h2 h3 => h j h1 (by omega) h3
      simp only [reAt]
      split
      · rename_i hL
        rw [lk_addRe, if_neg, ih]
        intro hd
        have := h k (by omega) (by omega) hd
        rw [hL] at this; cases this
      · exact ih

theorem reAt_same {R : Nat → Rec} {L : Nat → Bool} {t : Nat} : ∀ (k : Nat), (∀ j, j < k → (R j).dst = some t → L j = true) → lk (reAt R L k) t = lk (reAt R every k) t
  | 0, _ => rfl
  | k + 1, h => by
    have ih := reAt_same k fun j h1 h2 => h j (by omega) h2
    simp only [reAt, every, if_true]
    rw [lk_addRe]
    by_cases hd : (R k).dst = some t
    · rw [if_pos (h k (by omega) hd), lk_addRe, if_pos hd, if_pos hd]
    · rw [if_neg hd]
      split
      · rw [lk_addRe, if_neg hd, ih]
      · rw [ih]

theorem reAt_mem {R : Nat → Rec} {L : Nat → Bool} {t : Nat} {k : Key} {h : HV} : ∀ (n : Nat), lk (reAt R L n) t = some (k, h) → ∃ j, j < n ∧ L j = true ∧ (R j).dst = some t ∧ (R j).key = k ∧ (R j).hv = h
  | 0, hl => by simp [reAt, lk] at hl
  | n + 1, hl => by
    simp only [reAt] at hl
    split at hl
    · rename_i hL
      rw [lk_addRe] at hl
      split at hl
      · rename_i hd
        simp only [Option.some.injEq, Prod.mk.injEq] at hl
        exact ⟨n, by omega, hL, hd, hl.1, hl.2⟩
      · obtain ⟨j, h1, h2⟩ := reAt_mem n hl
        exact ⟨j, by omega, h2⟩
    · obtain ⟨j, h1, h2⟩ := reAt_mem n hl
      exact ⟨j, by omega, h2⟩

theorem keyFree_all {d : Nat} : ∀ {re : REnv}, keyFree d re = true → ∀ x ∈ re, ∀ y ∈ x.2.1, y.1 ≠ d
  | [], _, x, hx => by simp at hx
  | (t, k, h) :: re, hf, x, hx => by
    simp only [keyFree, Bool.and_eq_true, Bool.not_eq_true'] at hf
    rcases List.mem_cons.1 hx with rfl | hx
    · exact keySlot_spec hf.1
    · exact keyFree_all hf.2 x hx

theorem reAt_every (R : Nat → Rec) (n : Nat) : reAt R every (n + 1) = addRe (R n).dst (R n).key (R n).hv (reAt R every n) := by rw [reAt, if_pos (show every n = true from rfl)]
theorem rhAt_every (R : Nat → Rec) (n : Nat) : rhAt R every (n + 1) = addRh (R n).key (R n).upd (rhAt R every n) := by rw [rhAt, if_pos (show every n = true from rfl)]

theorem reAt_has {R : Nat → Rec} {t j : Nat} (hd : (R j).dst = some t) : ∀ (n : Nat), j < n → (t, (R j).key, (R j).hv) ∈ reAt R every n
  | 0, h => by omega
  | n + 1, h => by
    rw [reAt_every]
    by_cases hj : j = n
    · subst hj; rw [hd]; simp [addRe]
    · have := reAt_has hd n (by omega)
      cases hdn : (R n).dst with
      | none => simpa [addRe] using this
      | some d => simp only [addRe]; exact List.mem_cons_of_mem _ this

/-! ### The objects -/
/-- The objects as they stand: what was made under a key that does not hold is not there. -/
def hAt (tmps : Array Value) : RH → Hp → Hp
  | [], hp => hp
  | (o, k, vo) :: rh, hp => if KeyHolds tmps k then (o, vo) :: hAt tmps rh hp else hAt tmps rh hp

theorem hAt_addRh_holds {tmps : Array Value} {key : Key} (hk : KeyHolds tmps key) : ∀ (upd : List (Nat × VO)) (rh : RH) (hp : Hp), hAt tmps (addRh key upd rh) hp = upd ++ hAt tmps rh hp
  | [], _, _ => rfl
  | (o, vo) :: upd, rh, hp => by simp only [addRh, hAt, if_pos hk, List.cons_append, hAt_addRh_holds hk upd]
theorem hAt_addRh_not {tmps : Array Value} {key : Key} (hk : ¬ KeyHolds tmps key) : ∀ (upd : List (Nat × VO)) (rh : RH) (hp : Hp), hAt tmps (addRh key upd rh) hp = hAt tmps rh hp
  | [], _, _ => rfl
  | (o, vo) :: upd, rh, hp => by simp only [addRh, hAt, if_neg hk, hAt_addRh_not hk upd]

theorem lk_append {α : Type} : ∀ (a b : List (Nat × α)) (o : Nat), lk (a ++ b) o = match lk a o with
    | some v => some v
    | none => lk b o
  | [], b, o => rfl
  | (k, v) :: a, b, o => by
    simp only [List.cons_append, lk_cons]
    by_cases h : k = o
    · simp [h]
    · simp only [if_neg h]; exact lk_append a b o

theorem lk_none_iff {α : Type} {o : Nat} : ∀ {a : List (Nat × α)}, lk a o = none ↔ ∀ x ∈ a, x.1 ≠ o
  | [] => by simp [lk]
  | (k, v) :: a => by
    rw [lk_cons]
    by_cases h : k = o
    · simp [h]
    · rw [if_neg h, lk_none_iff (a := a)]
      simp [h]

/-- The objects that an operation turns. -/
def turns (r : Rec) (o : Nat) : Prop := lk r.upd o ≠ none

theorem lk_addRh {key : Key} {o : Nat} : ∀ (upd : List (Nat × VO)) (rh : RH), lk (addRh key upd rh) o = match lk upd o with
    | some vo => some (key, vo)
    | none => lk rh o
  | [], rh => rfl
  | (k, vo) :: upd, rh => by
    simp only [addRh, lk_cons]
    by_cases h : k = o
    · simp [h]
    · simp only [if_neg h]; exact lk_addRh upd rh

theorem rhAt_skip {R : Nat → Rec} {L : Nat → Bool} {o i : Nat} : ∀ (k : Nat), i ≤ k → (∀ j, i ≤ j → j < k → turns (R j) o → L j = false) → lk (rhAt R L k) o = lk (rhAt R L i) o
  | 0, hik, _ => by
    have : i = 0 := by omega
    subst this; rfl
  | k + 1, hik, h => by
    by_cases he : i = k + 1
    · subst he; rfl
    · have ih := rhAt_skip k (by omega) fun j h1 h2 h3 => h j h1 (by omega) h3
      simp only [rhAt]
      split
      · rename_i hL
        rw [lk_addRh]
        cases hd : lk (R k).upd o with
        | some vo =>
          have := h k (by omega) (by omega) (by unfold turns; rw [hd]; simp)
          rw [hL] at this; cases this
        | none => exact ih
      · exact ih

theorem rhAt_same {R : Nat → Rec} {L : Nat → Bool} {o : Nat} : ∀ (k : Nat), (∀ j, j < k → turns (R j) o → L j = true) → lk (rhAt R L k) o = lk (rhAt R every k) o
  | 0, _ => rfl
  | k + 1, h => by
    have ih := rhAt_same k fun j h1 h2 => h j (by omega) h2
    simp only [rhAt, every, if_true]
    rw [lk_addRh]
    cases hd : lk (R k).upd o with
    | some vo => rw [if_pos (h k (by omega) (by unfold turns; rw [hd]; simp)), lk_addRh, hd]
    | none =>
      split
      · rw [lk_addRh, hd]; exact ih
      · exact ih

theorem rhAt_mem {R : Nat → Rec} {L : Nat → Bool} : ∀ (n : Nat), ∀ x ∈ rhAt R L n, ∃ j, j < n ∧ L j = true ∧ turns (R j) x.1 ∧ (R j).key = x.2.1
  | 0, x, hx => by simp [rhAt] at hx
  | n + 1, x, hx => by
    simp only [rhAt] at hx
    split at hx
    · rename_i hL
      have : x ∈ rhAt R L n ∨ (turns (R n) x.1 ∧ (R n).key = x.2.1) := by
        generalize rhAt R L n = rh at hx
        have : ∀ (upd : List (Nat × VO)), x ∈ addRh (R n).key upd rh → x ∈ rh ∨ (lk upd x.1 ≠ none ∧ (R n).key = x.2.1) := by
          intro upd
          induction upd with
          | nil => intro h; exact .inl h
          | cons u upd ih =>
            intro h
            obtain ⟨o, vo⟩ := u
            simp only [addRh] at h
            rcases List.mem_cons.1 h with rfl | h
            · exact .inr ⟨by rw [lk_cons]; simp, rfl⟩
            · rcases ih h with h1 | ⟨h1, h2⟩
              · exact .inl h1
              · refine .inr ⟨?_, h2⟩
                rw [lk_cons]
                split
                · simp
                · exact h1
        exact this _ hx
      rcases this with h | ⟨h1, h2⟩
      · obtain ⟨j, k1, k2⟩ := rhAt_mem n x h
        exact ⟨j, by omega, k2⟩
      · exact ⟨n, by omega, hL, h1, h2⟩
    · obtain ⟨j, k1, k2⟩ := rhAt_mem n x hx
      exact ⟨j, by omega, k2⟩

theorem hAt_congr {tmps tmps' : Array Value} {hp : Hp} : ∀ (rh : RH), (∀ x ∈ rh, (KeyHolds tmps' x.2.1 ↔ KeyHolds tmps x.2.1)) → hAt tmps' rh hp = hAt tmps rh hp
  | [], _ => rfl
  | (o, k, vo) :: rh, h => by
    have h1 := h (o, k, vo) (by simp)
    have ih := hAt_congr (hp := hp) rh fun x hx => h x (by simp [hx])
    simp only [hAt, ih, h1]

/-- An object whose first record holds. -/
theorem lk_hAt_some {tmps : Array Value} {hp : Hp} {o : Nat} {k : Key} {vo : VO} : ∀ {rh : RH}, lk rh o = some (k, vo) → KeyHolds tmps k → lk (hAt tmps rh hp) o = some vo
  | [], h, _ => by simp [lk] at h
  | (o', k', vo') :: rh, h, hk => by
    rw [lk_cons] at h
    simp only [hAt]
    split at h
    · rename_i e; subst e
      simp only [Option.some.injEq, Prod.mk.injEq] at h
      obtain ⟨rfl, rfl⟩ := h
      rw [if_pos hk, lk_cons, if_pos rfl]
    · rename_i e
      have ih := lk_hAt_some (hp := hp) h hk
      split
      · rw [lk_cons, if_neg e, ih]
      · exact ih
theorem lk_hAt_none {tmps : Array Value} {hp : Hp} {o : Nat} : ∀ {rh : RH}, lk rh o = none → lk (hAt tmps rh hp) o = lk hp o
  | [], _ => rfl
  | (o', k', vo') :: rh, h => by
    rw [lk_cons] at h
    simp only [hAt]
    split at h
    · cases h
    · rename_i e
      have ih := lk_hAt_none (tmps := tmps) (hp := hp) h
      split
      · rw [lk_cons, if_neg e, ih]
      · exact ih

/-- One more operation of the list: what is looked up is as if it came last. -/
theorem hAt_insert {R : Nat → Rec} {L L' : Nat → Bool} {i : Nat} {tmps : Array Value} {hp : Hp} (hL : ∀ j, j ≠ i → L' j = L j) (hi : L i = false) (hi' : L' i = true) (o : Nat) :
    ∀ (n : Nat), i < n → (∀ j, i < j → j < n → L j = true → ∀ o, turns (R i) o → ¬ turns (R j) o) →
      lk (hAt tmps (rhAt R L' n) hp) o = lk (if KeyHolds tmps (R i).key then (R i).upd ++ hAt tmps (rhAt R L n) hp else hAt tmps (rhAt R L n) hp) o
  | 0, h, _ => by omega
  | n + 1, h, hdis => by
    by_cases hin : i = n
    · subst hin
      have hbelow : ∀ k, k ≤ i → rhAt R L' k = rhAt R L k := by
        intro k
        induction k with
        | zero => intro _; rfl
        | succ k ih => intro hk; simp only [rhAt, hL k (by omega), ih (by omega)]
      simp only [rhAt, hi, hi', if_true, Bool.false_eq_true, if_false, hbelow i (Nat.le_refl _)]
      split
      · rename_i hk; rw [hAt_addRh_holds hk]
      · rename_i hk; rw [hAt_addRh_not hk]
    · have ih := hAt_insert (tmps := tmps) (hp := hp) hL hi hi' o n (by omega) fun j h1 h2 h3 => hdis j h1 (by omega) h3
      simp only [rhAt, hL n (Ne.symm hin)]
      by_cases hLn : L n = true
      · simp only [if_pos hLn]
        have hd := hdis n (by omega) (by omega) hLn
        by_cases hkn : KeyHolds tmps (R n).key
        · rw [hAt_addRh_holds hkn, hAt_addRh_holds hkn, lk_append, ih]
          split
          · rename_i v hv
            have hnot : lk (R i).upd o = none := by
              cases h9 : lk (R i).upd o with
              | none => rfl
              | some v9 => exact absurd (by unfold turns; rw [hv]; simp) (hd o (by unfold turns; rw [h9]; simp))
            split
            · rw [lk_append, hnot, lk_append, hv]
            · rw [lk_append, hv]
          · rename_i hv
            split
            · rw [lk_append, lk_append]
              split
              · rfl
              · rw [lk_append, hv]
            · rw [lk_append, hv]
        · rw [hAt_addRh_not hkn, hAt_addRh_not hkn]; exact ih
      · simp only [if_neg hLn]; exact ih

theorem reAt_insert {R : Nat → Rec} {L L' : Nat → Bool} {i : Nat} (hL : ∀ j, j ≠ i → L' j = L j) (hi : L i = false) (hi' : L' i = true) (t : Nat) :
    ∀ (n : Nat), i < n → (∀ j, i < j → j < n → L j = true → ∀ d, (R i).dst = some d → (R j).dst ≠ some d) →
      lk (reAt R L' n) t = lk (addRe (R i).dst (R i).key (R i).hv (reAt R L n)) t
  | 0, h, _ => by omega
  | n + 1, h, hdis => by
    by_cases hin : i = n
    · subst hin
      have hbelow : ∀ k, k ≤ i → reAt R L' k = reAt R L k := by
        intro k
        induction k with
        | zero => intro _; rfl
        | succ k ih => intro hk; simp only [reAt, hL k (by omega), ih (by omega)]
      simp only [reAt, hi, hi', if_true, Bool.false_eq_true, if_false, hbelow i (Nat.le_refl _)]
    · have ih := reAt_insert hL hi hi' t n (by omega) fun j h1 h2 h3 => hdis j h1 (by omega) h3
      simp only [reAt, hL n (Ne.symm hin)]
      by_cases hLn : L n = true
      · simp only [if_pos hLn]
        have hd := hdis n (by omega) (by omega) hLn
        rw [lk_addRe, lk_addRe, ih, lk_addRe, lk_addRe]
        by_cases h1 : (R n).dst = some t
        · rw [if_pos h1, if_pos h1, if_neg]
          intro h2
          exact hd t h2 h1
        · rw [if_neg h1, if_neg h1]
      · simp only [if_neg hLn]; exact ih
end Go.Vm
