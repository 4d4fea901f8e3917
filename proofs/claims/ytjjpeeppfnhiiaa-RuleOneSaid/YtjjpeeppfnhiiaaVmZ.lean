/- The evaluator is right: code, functions, summaries. -/
import Derived.Test.YtjjpeeppfnhiiaaVmY
namespace Go.Vm
open Go
open Classical
set_option linter.unusedSimpArgs false

theorem lk_merge (e : Env) (t : Nat) : ∀ (re : REnv), lk (merge re e) t = match lk re t with
    | some ([], h) => some h
    | some (_ :: _, _) => some .und
    | none => lk e t
  | [] => rfl
  | (t0, [], h) :: re => by
    simp only [merge, lk_cons]
    split
    · rfl
    · exact lk_merge e t re
  | (t0, _ :: _, h) :: re => by
    simp only [merge, lk_cons]
    split
    · rfl
    · exact lk_merge e t re

theorem lk_mergeH (hp : Hp) (t : Nat) : ∀ (rh : RH), lk (mergeH rh hp) t = match lk rh t with
    | some ([], h) => some h
    | some (_ :: _, _) => some .dead
    | none => lk hp t
  | [] => rfl
  | (t0, [], h) :: re => by
    simp only [mergeH, lk_cons]
    split
    · rfl
    · exact lk_mergeH hp t re
  | (t0, _ :: _, h) :: re => by
    simp only [mergeH, lk_cons]
    split
    · rfl
    · exact lk_mergeH hp t re

section
variable {P : Program} {c : Ctx} {w0 : Base}

theorem merge_rel {B : Nat} {g : Ghost} {loc : Loc} {N : Nat} {e : Env} {re : REnv} {a : Act} (F : FRel B g loc N e re a) : FRel B g loc N (merge re e) [] a where
  size := F.size
  defers := F.defers
  base := by
    intro t h _ hl
    rw [lk_merge] at hl
    split at hl
    · rename_i h' hk
      simp only [Option.some.injEq] at hl; subst hl
      exact (F.reg t [] h' hk).1 fun x hx => by simp at hx
    · simp only [Option.some.injEq] at hl; subst hl; exact trivial
    · rename_i hk; exact F.base t h hk hl
  reg := fun t k h hl => by simp [lk] at hl
  keys := fun t k h hl => by simp [lk] at hl

/-- Some objects less. -/
theorem HeapRel.sub {w : World} {hp hp' : Hp} {g : Ghost} {loc : Loc} (hs : ∀ o vo, lk hp' o = some vo → vo = .dead ∨ lk hp o = some vo) (H : HeapRel w0 hp g loc w) : HeapRel w0 hp' g loc w where
  obj := by
    intro o vo h
    rcases hs o vo h with rfl | h
    · exact trivial
    · exact H.obj o vo h
  inj := by
    intro o o' vo vo' b x x' h h' l l' e1 e2 b1 b2
    rcases hs o vo h with rfl | h
    · simp [VO.live] at l
    · rcases hs o' vo' h' with rfl | h'
      · simp [VO.live] at l'
      · exact H.inj o o' vo vo' b x x' h h' l l' e1 e2 b1 b2
  ghost := H.ghost
  sep := by
    intro o vo b x h l
    rcases hs o vo h with rfl | h
    · simp [VO.live] at l
    · exact H.sep o vo b x h l
  low := by
    intro o vo b x h l
    rcases hs o vo h with rfl | h
    · simp [VO.live] at l
    · exact H.low o vo b x h l
  ext := H.ext
  size := H.size
  old := H.old
  still := H.still

theorem mergeH_rel {w : World} {tmps : Array Value} {rh : RH} {hp : Hp} {g : Ghost} {loc : Loc} (H : HeapRel w0 (hAt tmps rh hp) g loc w) : HeapRel w0 (mergeH rh hp) g loc w := by
  refine H.sub fun o vo h => ?_
  rw [lk_mergeH] at h
  split at h
  · rename_i vo' hk
    simp only [Option.some.injEq] at h; subst h
    exact .inr (lk_hAt_some hk fun x hx => by simp at hx)
  · simp only [Option.some.injEq] at h; exact .inl h.symm
  · rename_i hk; exact .inr (by rw [lk_hAt_none hk]; exact h)

/-! ### Renaming -/
theorem nat_blt {a b : Nat} (h : Nat.blt a b = true) : a < b := blt_lt h
mutual
theorem HC.ren {g : Ghost} {loc loc' : Loc} {n : Nat} {ρ : List (Nat × Nat)} (hl : ∀ o, o < n → ∀ x, loc (renId ρ o) = some x → loc' o = some x) : ∀ {h : HV} {us : List Value}, idsLt n h = true → HC g loc (Vm.ren ρ h) us → HC g loc' h us
  | .dat s d, us, _, h => by simp only [Vm.ren, HC] at h ⊢; exact h
  | .ptr o r p s, us, hi, h => by
    simp only [Vm.ren, HC] at h ⊢
    obtain ⟨b, cap, len, off, h1, h2⟩ := h
    exact ⟨b, cap, len, off, hl _ (nat_blt hi) _ h1, h2⟩
  | .own o s, us, hi, h => by
    simp only [Vm.ren, HC] at h ⊢
    rcases h with ⟨h1, h2⟩ | ⟨b, cap, len, h1, h2⟩
    · exact .inl ⟨hl _ (nat_blt hi) _ h1, h2⟩
    · exact .inr ⟨b, cap, len, hl _ (nat_blt hi) _ h1, h2⟩
  | .gptr s d, us, _, h => by simp only [Vm.ren, HC] at h ⊢; exact h
  | .fn f cs, us, hi, h => by
    simp only [Vm.ren, HC] at h ⊢
    obtain ⟨vs, h1, h2⟩ := h
    exact ⟨vs, HVs.ren hl (by simpa [idsLt] using hi) h1, h2⟩
  | .st ss fs, us, hi, h => by simp only [Vm.ren, HC] at h ⊢; exact HCs.ren hl (by simpa [idsLt] using hi) h
  | .tup l, us, _, h => by simp only [Vm.ren, HC] at h
  | .cst v, us, _, h => by simp only [Vm.ren, HC] at h ⊢; exact h
  | .yld o, us, hi, h => by
    simp only [Vm.ren, HC] at h ⊢
    obtain ⟨b, r, h1, h2⟩ := h
    exact ⟨b, r, hl _ (nat_blt hi) _ h1, h2⟩
  | .und, us, _, h => by simp only [Vm.ren, HC] at h
theorem HCs.ren {g : Ghost} {loc loc' : Loc} {n : Nat} {ρ : List (Nat × Nat)} (hl : ∀ o, o < n → ∀ x, loc (renId ρ o) = some x → loc' o = some x) : ∀ {ss : List Sh} {fs : List HV} {us : List Value}, idssLt n fs = true → HCs g loc ss (rens ρ fs) us → HCs g loc' ss fs us
  | [], [], us, _, h => by simp only [rens, HCs] at h ⊢; exact h
  | s :: ss, f :: fs, us, hi, h => by
    simp only [idssLt, Bool.and_eq_true] at hi
    simp only [rens, HCs] at h ⊢
    exact ⟨h.1, HC.ren hl hi.1 h.2.1, HCs.ren hl hi.2 h.2.2⟩
  | [], _ :: _, _, _, h => by simp [rens, HCs] at h
  | _ :: _, [], _, _, h => by simp [rens, HCs] at h
theorem HVs.ren {g : Ghost} {loc loc' : Loc} {n : Nat} {ρ : List (Nat × Nat)} (hl : ∀ o, o < n → ∀ x, loc (renId ρ o) = some x → loc' o = some x) : ∀ {hs : List HV} {vs : List Value}, idssLt n hs = true → HVs g loc (rens ρ hs) vs → HVs g loc' hs vs
  | [], [], _, _ => by simp only [HVs]
  | h :: hs, v :: vs, hi, k => by
    simp only [idssLt, Bool.and_eq_true] at hi
    simp only [rens, HVs] at k ⊢
    obtain ⟨⟨us, h1, h2⟩, h3⟩ := k
    have e : (Vm.ren ρ h).agg = h.agg := by cases h <;> simp [Vm.ren, HV.agg]
    exact ⟨⟨us, HC.ren hl hi.1 h1, by rw [← e]; exact h2⟩, HVs.ren hl hi.2 h3⟩
  | [], _ :: _, _, h => by simp [rens, HVs] at h
  | _ :: _, [], _, h => by simp [rens, HVs] at h
end

theorem HRel.ren {g : Ghost} {loc loc' : Loc} {n : Nat} {ρ : List (Nat × Nat)} (hl : ∀ o, o < n → ∀ x, loc (renId ρ o) = some x → loc' o = some x) {h : HV} {v : Value} (hi : idsLt n h = true) (hr : HRel g loc (Vm.ren ρ h) v) : HRel g loc' h v := by
  have e : (Vm.ren ρ h).agg = h.agg := by cases h <;> simp [Vm.ren, HV.agg]
  cases h with
  | und => exact trivial
  | tup l =>
    simp only [Vm.ren] at hr
    obtain ⟨vs, h1, h2⟩ := hr
    exact ⟨vs, HVs.ren hl (by simpa [idsLt] using hi) h1, h2⟩
  | dat s d => obtain ⟨us, h1, h2⟩ := hr; exact ⟨us, HC.ren hl hi h1, by rw [← e]; exact h2⟩
  | ptr o r p s => obtain ⟨us, h1, h2⟩ := hr; exact ⟨us, HC.ren hl hi h1, by rw [← e]; exact h2⟩
  | own o s => obtain ⟨us, h1, h2⟩ := hr; exact ⟨us, HC.ren hl hi h1, by rw [← e]; exact h2⟩
  | gptr s d => obtain ⟨us, h1, h2⟩ := hr; exact ⟨us, HC.ren hl hi h1, by rw [← e]; exact h2⟩
  | fn f cs => obtain ⟨us, h1, h2⟩ := hr; exact ⟨us, HC.ren hl hi h1, by rw [← e]; exact h2⟩
  | st ss fs => obtain ⟨us, h1, h2⟩ := hr; exact ⟨us, HC.ren hl hi h1, by rw [← e]; exact h2⟩
  | cst v => obtain ⟨us, h1, h2⟩ := hr; exact ⟨us, HC.ren hl hi h1, by rw [← e]; exact h2⟩
  | yld o => obtain ⟨us, h1, h2⟩ := hr; exact ⟨us, HC.ren hl hi h1, by rw [← e]; exact h2⟩

theorem envLt_lk {n : Nat} : ∀ {A : Env}, envLt n A = true → ∀ t h, lk A t = some h → idsLt n h = true
  | [], _, t, h, hl => by simp [lk] at hl
  | (k, v) :: A, he, t, h, hl => by
    simp only [envLt, Bool.and_eq_true] at he
    rw [lk_cons] at hl
    split at hl
    · simp only [Option.some.injEq] at hl; subst hl; exact he.1
    · exact envLt_lk he.2 t h hl
theorem hpLt_lk {n : Nat} : ∀ {A : Hp}, hpLt n A = true → ∀ o vo, lk A o = some vo → o < n ∧ ∀ s v, vo = .box s v → idsLt n v = true
  | [], _, t, h, hl => by simp [lk] at hl
  | (k, v) :: A, he, t, h, hl => by
    have h1 : k < n ∧ (∀ s u, v = .box s u → idsLt n u = true) ∧ hpLt n A = true := by
      cases v <;> simp only [hpLt, Bool.and_eq_true] at he
      · exact ⟨nat_blt he.1, (fun s u e => by simp only [VO.box.injEq] at e; rw [← e.2]; exact he.2.1), he.2.2⟩
      · exact ⟨nat_blt he.1, (fun s u e => by cases e), he.2⟩
      · exact ⟨nat_blt he.1, (fun s u e => by cases e), he.2⟩
      · exact ⟨nat_blt he.1, (fun s u e => by cases e), he.2⟩
    rw [lk_cons] at hl
    split at hl
    · rename_i e; subst e; simp only [Option.some.injEq] at hl; subst hl; exact ⟨h1.1, h1.2.1⟩
    · exact hpLt_lk h1.2.2 t h hl
mutual
theorem fits_ren {ρ : List (Nat × Nat)} : ∀ (s : Sh) (h : HV), fits s (Vm.ren ρ h) = fits s h
  | s, .st ss fs => by
    cases s <;> simp only [Vm.ren, fits]
    rw [fitss_ren]
  | s, .dat _ _ => by cases s <;> simp [Vm.ren, fits]
  | s, .ptr .. => by cases s <;> simp [Vm.ren, fits]
  | s, .own .. => by cases s <;> simp [Vm.ren, fits]
  | s, .gptr .. => by cases s <;> simp [Vm.ren, fits]
  | s, .fn .. => by cases s <;> simp [Vm.ren, fits]
  | s, .tup .. => by cases s <;> simp [Vm.ren, fits]
  | s, .cst .. => by cases s <;> simp [Vm.ren, fits]
  | s, .yld .. => by cases s <;> simp [Vm.ren, fits]
  | s, .und => by cases s <;> simp [Vm.ren, fits]
theorem fitss_ren {ρ : List (Nat × Nat)} : ∀ (ss : List Sh) (fs : List HV), fitss ss (rens ρ fs) = fitss ss fs
  | [], [] => by simp [rens, fitss]
  | [], _ :: _ => by simp [rens, fitss]
  | _ :: _, [] => by simp [rens, fitss]
  | s :: ss, f :: fs => by simp only [rens, fitss]; rw [fits_ren s f, fitss_ren ss fs]
end

theorem keysGe_lk {n : Nat} : ∀ {ρ : List (Nat × Nat)}, keysGe n ρ = true → ∀ o, o < n → renId ρ o = o
  | [], _, o, _ => rfl
  | (k, v) :: ρ, h, o, ho => by
    simp only [keysGe, Bool.and_eq_true] at h
    have hk := Nat.le_of_ble_eq_true h.1
    have ih := keysGe_lk h.2 o ho
    unfold renId at ih ⊢
    rw [lk_cons, if_neg (by omega)]
    exact ih

theorem imgsNew_inj {ρ : List (Nat × Nat)} : ∀ {hs : Hp} {l : List Nat}, imgsNew ρ hs l = true → (∀ o vo, (o, vo) ∈ hs → renId ρ o ∉ l) ∧ ∀ o vo o' vo', (o, vo) ∈ hs → (o', vo') ∈ hs → renId ρ o = renId ρ o' → o = o'
  | [], l, _ => ⟨fun o vo h => by simp at h, fun o vo o' vo' h => by simp at h⟩
  | (k, v) :: hs, l, h => by
    simp only [imgsNew, Bool.and_eq_true, Bool.not_eq_true'] at h
    obtain ⟨i1, i2⟩ := imgsNew_inj h.2
    have hk : renId ρ k ∉ l := fun hm => by rw [memN_iff.2 hm] at h; simp at h
    constructor
    · intro o vo hm
      rcases List.mem_cons.1 hm with e | hm
      · simp only [Prod.mk.injEq] at e; rw [e.1]; exact hk
      · exact fun h9 => i1 o vo hm (List.mem_cons_of_mem _ h9)
    · intro o vo o' vo' h1 h2 he
      rcases List.mem_cons.1 h1 with e1 | h1 <;> rcases List.mem_cons.1 h2 with e2 | h2
      · simp only [Prod.mk.injEq] at e1 e2; rw [e1.1, e2.1]
      · simp only [Prod.mk.injEq] at e1; rw [e1.1] at he
        exact absurd (by rw [← he]; simp) (i1 o' vo' h2)
      · simp only [Prod.mk.injEq] at e2; rw [e2.1] at he
        exact absurd (by rw [he]; simp) (i1 o vo h1)
      · exact i2 o vo o' vo' h1 h2 he

theorem envEq_lk {ρ : List (Nat × Nat)} {B : Env} : ∀ {A : Env}, envEq ρ B A → ∀ t h, lk A t = some h → lk B t = some (Vm.ren ρ h)
  | [], _, t, h, hl => by simp [lk] at hl
  | (k, v) :: A, he, t, h, hl => by
    simp only [envEq] at he
    rw [lk_cons] at hl
    split at hl
    · rename_i e; subst e; simp only [Option.some.injEq] at hl; subst hl; exact he.1
    · exact envEq_lk he.2 t h hl
theorem hpEq_lk {ρ : List (Nat × Nat)} {B : Hp} : ∀ {A : Hp}, hpEq ρ B A → ∀ t h, lk A t = some h → lk B (renId ρ t) = some (renVO ρ h)
  | [], _, t, h, hl => by simp [lk] at hl
  | (k, v) :: A, he, t, h, hl => by
    simp only [hpEq] at he
    rw [lk_cons] at hl
    split at hl
    · rename_i e; subst e; simp only [Option.some.injEq] at hl; subst hl; exact he.1
    · exact hpEq_lk he.2 t h hl

/-- Some names are forgotten, some are read anew. -/
theorem covers_rel {mk n0 N : Nat} {A B : ST} (hc : covers n0 A B) {g : Ghost} {loc : Loc} {a : Act} {w : World} (F : FRel mk g loc N B.1 [] a) (H : HeapN w0 B.2.1 B.2.2 g loc w) :
    ∃ loc', (∀ o, o < n0 → loc' o = loc o) ∧ FRel mk g loc' N A.1 [] a ∧ HeapN w0 A.2.1 A.2.2 g loc' w := by
  obtain ⟨ρ, hb, he, hh⟩ := hc
  simp only [Bool.and_eq_true] at hb
  obtain ⟨⟨⟨⟨hn, hk⟩, hi⟩, hel⟩, hhl⟩ := hb
  have hn' := Nat.le_of_ble_eq_true hn
  obtain ⟨_, hinj⟩ := imgsNew_inj hi
  let loc' : Loc := fun o => if o < A.2.2 then loc (renId ρ o) else none
  have hl : ∀ o, o < A.2.2 → loc' o = loc (renId ρ o) := fun o ho => by simp [loc', ho]
  have hl' : ∀ o, o < A.2.2 → ∀ x, loc (renId ρ o) = some x → loc' o = some x := fun o ho x hx => by rw [hl o ho]; exact hx
  have hlive : ∀ {o vo}, lk A.2.1 o = some vo → vo.live = true → lk B.2.1 (renId ρ o) = some (renVO ρ vo) ∧ (renVO ρ vo).live = true ∧ o < A.2.2 := fun {o vo} h1 h2 =>
    ⟨hpEq_lk hh _ _ h1, by cases vo <;> simp_all [renVO, VO.live], (hpLt_lk hhl _ _ h1).1⟩
  refine ⟨loc', fun o ho => ?_, ⟨F.size, F.defers, ?_, fun t k h hl => by simp [lk] at hl, fun t k h hl => by simp [lk] at hl⟩, ⟨?_, ?_, H.1.ghost, ?_, ?_, H.1.ext, H.1.size, H.1.old, H.1.still⟩, fun o ho => by simp [loc', Nat.not_lt.2 ho]⟩
  · rw [hl o (Nat.lt_of_lt_of_le ho hn'), keysGe_lk hk o ho]
  · intro t h h1 h2
    exact HRel.ren hl' (envLt_lk hel t h h2) (F.base t _ rfl (envEq_lk he t h h2))
  · intro o vo h1
    have h2 := H.1.obj _ _ (hpEq_lk hh _ _ h1)
    obtain ⟨ho, hid⟩ := hpLt_lk hhl _ _ h1
    cases vo with
    | box s v =>
      simp only [renVO] at h2
      obtain ⟨b, cap, len, T, vs, k1, k2, k3, k4, k5⟩ := h2
      exact ⟨b, cap, len, T, vs, hl' _ ho _ k1, k2, k3, by rw [← fits_ren]; exact k4, HC.ren hl' (hid _ _ rfl) k5⟩
    | grow s xs =>
      simp only [renVO] at h2
      rcases h2 with ⟨k1, k2⟩ | ⟨b, cap, T, cs, k1, k2⟩
      · exact .inl ⟨hl' _ ho _ k1, k2⟩
      · exact .inr ⟨b, cap, T, cs, hl' _ ho _ k1, k2⟩
    | loop st =>
      simp only [renVO] at h2
      obtain ⟨b, r, k1, k2⟩ := h2
      exact ⟨b, r, hl' _ ho _ k1, k2⟩
    | dead => exact trivial
  · intro o o' vo vo' b x x' h1 h2 l1 l2 e1 e2 b1 b2
    obtain ⟨m1, m2, m3⟩ := hlive h1 l1
    obtain ⟨n1, n2, n3⟩ := hlive h2 l2
    rw [hl _ m3] at e1; rw [hl _ n3] at e2
    exact hinj o vo o' vo' (lk_mem h1) (lk_mem h2) (H.1.inj _ _ _ _ b x x' m1 n1 m2 n2 e1 e2 b1 b2)
  · intro o vo b x h1 l1 e1 b1
    obtain ⟨m1, m2, m3⟩ := hlive h1 l1
    rw [hl _ m3] at e1
    exact H.1.sep _ _ b x m1 m2 e1 b1
  · intro o vo b x h1 l1 e1 b1
    obtain ⟨m1, m2, m3⟩ := hlive h1 l1
    rw [hl _ m3] at e1
    exact H.1.low _ _ b x m1 m2 e1 b1
end
end Go.Vm
