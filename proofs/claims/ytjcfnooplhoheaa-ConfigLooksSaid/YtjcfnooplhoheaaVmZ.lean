/- The evaluator is right: code, functions, summaries. -/
import Derived.Test.YtjcfnooplhoheaaVmY
noncomputable section
namespace Go.Vm
open Go
open Classical
set_option linter.unusedSimpArgs false

theorem lk_merge (e : Env) (t : Nat) : ∀ (re : REnv), lk (merge re e) t = match lk re t with
    | some ([], h) => some h
    | some (_ :: _, _) => some .und
    | none => lk e t
  | [] => rfl
  | (t0, [], h) :: re => by
    simp only [merge, lk_cons]
    split
    · rfl
    · exact lk_merge e t re
  | (t0, _ :: _, h) :: re => by
    simp only [merge, lk_cons]
    split
    · rfl
    · exact lk_merge e t re

theorem lk_mergeH (hp : Hp) (t : Nat) : ∀ (rh : RH), lk (mergeH rh hp) t = match lk rh t with
    | some ([], h) => some h
    | some (_ :: _, _) => some .dead
    | none => lk hp t
  | [] => rfl
  | (t0, [], h) :: re => by
    simp only [mergeH, lk_cons]
    split
    · rfl
    · exact lk_mergeH hp t re
  | (t0, _ :: _, h) :: re => by
    simp only [mergeH, lk_cons]
    split
    · rfl
    · exact lk_mergeH hp t re

section
variable {P : Program} {c : Ctx} {w0 : Base}

theorem merge_rel {B : MB} {g : Ghost} {loc : Loc} {N : Nat} {e : Env} {re : REnv} {a : Act} (F : FRel B g loc N e re a) : FRel B g loc N (merge re e) [] a where
  size := F.size
  defers := F.defers
  old := F.old
  base := by
    intro t h _ hl
    rw [lk_merge] at hl
    split at hl
    · rename_i h' hk
      simp only [Option.some.injEq] at hl; subst hl
      exact (F.reg t [] h' hk).1 fun x hx => by simp at hx
    · simp only [Option.some.injEq] at hl; subst hl; exact trivial
    · rename_i hk; exact F.base t h hk hl
  reg := fun t k h hl => by simp [lk] at hl
  keys := fun t k h hl => by simp [lk] at hl

theorem mergeC_rel {B : MB} {g : Ghost} {loc : Loc} {N : Nat} {e : Env} {re : REnv} {a : Act} {c : Ctx} {K : Env → Prop} (F : FRel B g loc N e re a) (h : mergeC c N re e K) : ∃ e', K e' ∧ FRel B g loc N e' [] a := by
  unfold mergeC at h
  split at h
  · rw [mergeK_eq] at h
    exact ⟨_, h, merge_rel F⟩
  · rename_i ks _
    rw [mergeP_eq] at h
    refine ⟨_, h, F.size, F.defers, F.old, fun t h _ hl => ?_, fun t k h hl => by simp [lk] at hl, fun t k h hl => by simp [lk] at hl⟩
    rcases mergeP_lk hl with rfl | h1 | ⟨h1, h2⟩
    · exact trivial
    · exact (F.reg t [] h h1).1 fun x hx => by simp at hx
    · exact F.base t h h1 h2

/-- Some objects less. -/
theorem HeapRel.sub {w : World} {hp hp' : Hp} {g : Ghost} {loc : Loc} (hs : ∀ o vo, lk hp' o = some vo → vo = .dead ∨ lk hp o = some vo) (H : HeapRel w0 hp g loc w) : HeapRel w0 hp' g loc w where
  obj := by
    intro o vo h
    rcases hs o vo h with rfl | h
    · exact trivial
    · exact H.obj o vo h
  inj := by
    intro o o' vo vo' b x x' h h' l l' e1 e2 b1 b2
    rcases hs o vo h with rfl | h
    · simp [VO.live] at l
    · rcases hs o' vo' h' with rfl | h'
      · simp [VO.live] at l'
      · exact H.inj o o' vo vo' b x x' h h' l l' e1 e2 b1 b2
  ghost := H.ghost
  sep := by
    intro o vo b x h l
    rcases hs o vo h with rfl | h
    · simp [VO.live] at l
    · exact H.sep o vo b x h l
  low := by
    intro o vo b x h l
    rcases hs o vo h with rfl | h
    · simp [VO.live] at l
    · exact H.low o vo b x h l
  ext := H.ext
  size := H.size
  old := H.old
  still := H.still

theorem mergeH_rel {w : World} {tmps : Array Value} {rh : RH} {hp : Hp} {g : Ghost} {loc : Loc} (H : HeapRel w0 (hAt tmps rh hp) g loc w) : HeapRel w0 (mergeH rh hp) g loc w := by
  refine H.sub fun o vo h => ?_
  rw [lk_mergeH] at h
  split at h
  · rename_i vo' hk
    simp only [Option.some.injEq] at h; subst h
    exact .inr (lk_hAt_some hk fun x hx => by simp at hx)
  · simp only [Option.some.injEq] at h; exact .inl h.symm
  · rename_i hk; exact .inr (by rw [lk_hAt_none hk]; exact h)

/-! ### Renaming -/
theorem nat_blt {a b : Nat} (h : Nat.blt a b = true) : a < b := blt_lt h
theorem ren_agg {ρ : List (Nat × Nat)} {h : HV} : (Vm.ren ρ h).agg = h.agg := by
  cases h with
  | own o s => simp only [Vm.ren, ownR]; split <;> simp [HV.agg]
  | _ => simp [Vm.ren, HV.agg]
mutual
theorem HC.ren {g : Ghost} {loc loc' : Loc} {n : Nat} {ρ : List (Nat × Nat)} (hl : ∀ o, o < n → (∀ x, loc (renId ρ o) = some x → loc' o = some x) ∧ (Nat.ble 1000000 (renId ρ o) = true → loc' o = some .nil)) : ∀ {h : HV} {us : List Value}, idsLt n h = true → HC g loc (Vm.ren ρ h) us → HC g loc' h us
  | .dat s d, us, _, h => by simp only [Vm.ren, HC] at h ⊢; exact h
  | .ptr o r p s, us, hi, h => by
    simp only [Vm.ren, HC] at h ⊢
    obtain ⟨b, cap, len, off, h1, h2⟩ := h
    exact ⟨b, cap, len, off, (hl _ (nat_blt hi)).1 _ h1, h2⟩
  | .own o s, us, hi, h => by
    simp only [Vm.ren, ownR] at h
    split at h
    · rename_i hb
      simp only [HC] at h ⊢
      exact .inl ⟨(hl _ (nat_blt hi)).2 hb, none, h.1⟩
    · simp only [HC] at h ⊢
      rcases h with ⟨h1, h2⟩ | ⟨b, cap, len, h1, h2⟩
      · exact .inl ⟨(hl _ (nat_blt hi)).1 _ h1, h2⟩
      · exact .inr ⟨b, cap, len, (hl _ (nat_blt hi)).1 _ h1, h2⟩
  | .gptr s d, us, _, h => by simp only [Vm.ren, HC] at h ⊢; exact h
  | .fn f cs, us, hi, h => by
    simp only [Vm.ren, HC] at h ⊢
    obtain ⟨vs, h1, h2⟩ := h
    exact ⟨vs, HVs.ren hl (by simpa [idsLt] using hi) h1, h2⟩
  | .st ss fs, us, hi, h => by simp only [Vm.ren, HC] at h ⊢; exact HCs.ren hl (by simpa [idsLt] using hi) h
  | .tup l, us, _, h => by simp only [Vm.ren, HC] at h
  | .cst v, us, _, h => by simp only [Vm.ren, HC] at h ⊢; exact h
  | .yld o, us, hi, h => by
    simp only [Vm.ren, HC] at h ⊢
    obtain ⟨b, r, h1, h2⟩ := h
    exact ⟨b, r, (hl _ (nat_blt hi)).1 _ h1, h2⟩
  | .mp o _ _, us, hi, h => by
    simp only [Vm.ren, HC] at h ⊢
    obtain ⟨b, h1, h2⟩ := h
    exact ⟨b, (hl _ (nat_blt hi)).1 _ h1, h2⟩
  | .mit o, us, hi, h => by
    simp only [Vm.ren, HC] at h ⊢
    obtain ⟨b, h1, h2⟩ := h
    exact ⟨b, (hl _ (nat_blt hi)).1 _ h1, h2⟩
  | .und, us, _, h => by simp only [Vm.ren, HC] at h
theorem HCs.ren {g : Ghost} {loc loc' : Loc} {n : Nat} {ρ : List (Nat × Nat)} (hl : ∀ o, o < n → (∀ x, loc (renId ρ o) = some x → loc' o = some x) ∧ (Nat.ble 1000000 (renId ρ o) = true → loc' o = some .nil)) : ∀ {ss : List Sh} {fs : List HV} {us : List Value}, idssLt n fs = true → HCs g loc ss (rens ρ fs) us → HCs g loc' ss fs us
  | [], [], us, _, h => by simp only [rens, HCs] at h ⊢; exact h
  | s :: ss, f :: fs, us, hi, h => by
    simp only [idssLt, Bool.and_eq_true] at hi
    simp only [rens, HCs] at h ⊢
    exact ⟨h.1, HC.ren hl hi.1 h.2.1, HCs.ren hl hi.2 h.2.2⟩
  | [], _ :: _, _, _, h => by simp [rens, HCs] at h
  | _ :: _, [], _, _, h => by simp [rens, HCs] at h
theorem HVs.ren {g : Ghost} {loc loc' : Loc} {n : Nat} {ρ : List (Nat × Nat)} (hl : ∀ o, o < n → (∀ x, loc (renId ρ o) = some x → loc' o = some x) ∧ (Nat.ble 1000000 (renId ρ o) = true → loc' o = some .nil)) : ∀ {hs : List HV} {vs : List Value}, idssLt n hs = true → HVs g loc (rens ρ hs) vs → HVs g loc' hs vs
  | [], [], _, _ => by simp only [HVs]
  | h :: hs, v :: vs, hi, k => by
    simp only [idssLt, Bool.and_eq_true] at hi
    simp only [rens, HVs] at k ⊢
    obtain ⟨⟨us, h1, h2⟩, h3⟩ := k
    have e : (Vm.ren ρ h).agg = h.agg := ren_agg
    exact ⟨⟨us, HC.ren hl hi.1 h1, by rw [← e]; exact h2⟩, HVs.ren hl hi.2 h3⟩
  | [], _ :: _, _, h => by simp [rens, HVs] at h
  | _ :: _, [], _, h => by simp [rens, HVs] at h
end

theorem HRel.ren {g : Ghost} {loc loc' : Loc} {n : Nat} {ρ : List (Nat × Nat)} (hl : ∀ o, o < n → (∀ x, loc (renId ρ o) = some x → loc' o = some x) ∧ (Nat.ble 1000000 (renId ρ o) = true → loc' o = some .nil)) {h : HV} {v : Value} (hi : idsLt n h = true) (hr : HRel g loc (Vm.ren ρ h) v) : HRel g loc' h v := by
  have e : (Vm.ren ρ h).agg = h.agg := ren_agg
  cases h with
  | und => exact trivial
  | tup l =>
    simp only [Vm.ren] at hr
    obtain ⟨vs, h1, h2⟩ := hr
    exact ⟨vs, HVs.ren hl (by simpa [idsLt] using hi) h1, h2⟩
  | dat s d => obtain ⟨us, h1, h2⟩ := hr; exact ⟨us, HC.ren hl hi h1, by rw [← e]; exact h2⟩
  | ptr o r p s => obtain ⟨us, h1, h2⟩ := hr; exact ⟨us, HC.ren hl hi h1, by rw [← e]; exact h2⟩
  | own o s =>
    have hr' : ∃ us, HC g loc (Vm.ren ρ (.own o s)) us ∧ v = mkV (Vm.ren ρ (.own o s)).agg us := by
      simp only [Vm.ren, ownR] at hr ⊢
      cases hb : Nat.ble 1000000 (renId ρ o) <;> (rw [hb] at hr; exact hr)
    obtain ⟨us, h1, h2⟩ := hr'
    exact ⟨us, HC.ren hl hi h1, by rw [← e]; exact h2⟩
  | gptr s d => obtain ⟨us, h1, h2⟩ := hr; exact ⟨us, HC.ren hl hi h1, by rw [← e]; exact h2⟩
  | fn f cs => obtain ⟨us, h1, h2⟩ := hr; exact ⟨us, HC.ren hl hi h1, by rw [← e]; exact h2⟩
  | st ss fs => obtain ⟨us, h1, h2⟩ := hr; exact ⟨us, HC.ren hl hi h1, by rw [← e]; exact h2⟩
  | cst v => obtain ⟨us, h1, h2⟩ := hr; exact ⟨us, HC.ren hl hi h1, by rw [← e]; exact h2⟩
  | yld o => obtain ⟨us, h1, h2⟩ := hr; exact ⟨us, HC.ren hl hi h1, by rw [← e]; exact h2⟩
  | mp o ks vs => obtain ⟨us, h1, h2⟩ := hr; exact ⟨us, HC.ren hl hi h1, by rw [← e]; exact h2⟩
  | mit o => obtain ⟨us, h1, h2⟩ := hr; exact ⟨us, HC.ren hl hi h1, by rw [← e]; exact h2⟩

theorem envLt_lk {n : Nat} : ∀ {A : Env}, envLt n A = true → ∀ t h, lk A t = some h → idsLt n h = true
  | [], _, t, h, hl => by simp [lk] at hl
  | (k, v) :: A, he, t, h, hl => by
    simp only [envLt, Bool.and_eq_true] at he
    rw [lk_cons] at hl
    split at hl
    · simp only [Option.some.injEq] at hl; subst hl; exact he.1
    · exact envLt_lk he.2 t h hl
theorem hpLt_lk {n : Nat} : ∀ {A : Hp}, hpLt n A = true → ∀ o vo, lk A o = some vo → o < n ∧ (∀ s v, vo = .box s v → idsLt n v = true) ∧ (∀ om a b l, vo = .iter om a b l → om < n) ∧ ∀ fs, vo = .vec fs → idssLt n fs = true
  | [], _, t, h, hl => by simp [lk] at hl
  | (k, v) :: A, he, t, h, hl => by
    have h1 : k < n ∧ ((∀ s u, v = .box s u → idsLt n u = true) ∧ (∀ om a b l, v = .iter om a b l → om < n) ∧ ∀ fs, v = .vec fs → idssLt n fs = true) ∧ hpLt n A = true := by
      cases v <;> simp only [hpLt, Bool.and_eq_true] at he
      case box => exact ⟨nat_blt he.1, ⟨(fun s u e => by simp only [VO.box.injEq] at e; rw [← e.2]; exact he.2.1), (fun _ _ _ _ e => by cases e), (fun _ e => by cases e)⟩, he.2.2⟩
      case iter => exact ⟨nat_blt he.1, ⟨(fun s u e => by cases e), (fun _ _ _ _ e => by simp only [VO.iter.injEq] at e; rw [← e.1]; exact nat_blt he.2.1), (fun _ e => by cases e)⟩, he.2.2⟩
      case vec => exact ⟨nat_blt he.1, ⟨(fun s u e => by cases e), (fun _ _ _ _ e => by cases e), (fun _ e => by simp only [VO.vec.injEq] at e; rw [← e]; exact he.2.1)⟩, he.2.2⟩
      all_goals exact ⟨nat_blt he.1, ⟨(fun s u e => by cases e), (fun _ _ _ _ e => by cases e), (fun _ e => by cases e)⟩, he.2⟩
    rw [lk_cons] at hl
    split at hl
    · rename_i e; subst e; simp only [Option.some.injEq] at hl; subst hl; exact ⟨h1.1, h1.2.1⟩
    · exact hpLt_lk h1.2.2 t h hl
mutual
theorem fits_ren {ρ : List (Nat × Nat)} : ∀ (s : Sh) (h : HV), fits s (Vm.ren ρ h) = fits s h
  | s, .st ss fs => by
    cases s <;> simp only [Vm.ren, fits]
    rw [fitss_ren]
  | s, .dat _ _ => by cases s <;> simp [Vm.ren, fits]
  | s, .ptr .. => by cases s <;> simp [Vm.ren, fits]
  | s, .own .. => by
    simp only [Vm.ren, ownR]
    split <;> cases s <;> first | rfl | simp [fits]
  | s, .gptr .. => by cases s <;> simp [Vm.ren, fits]
  | s, .fn .. => by cases s <;> simp [Vm.ren, fits]
  | s, .tup .. => by cases s <;> simp [Vm.ren, fits]
  | s, .cst .. => by cases s <;> simp [Vm.ren, fits]
  | s, .yld .. => by cases s <;> simp [Vm.ren, fits]
  | s, .mp .. => by cases s <;> simp [Vm.ren, fits]
  | s, .mit .. => by cases s <;> simp [Vm.ren, fits]
  | s, .und => by cases s <;> simp [Vm.ren, fits]
theorem fitss_ren {ρ : List (Nat × Nat)} : ∀ (ss : List Sh) (fs : List HV), fitss ss (rens ρ fs) = fitss ss fs
  | [], [] => by simp [rens, fitss]
  | [], _ :: _ => by simp [rens, fitss]
  | _ :: _, [] => by simp [rens, fitss]
  | s :: ss, f :: fs => by simp only [rens, fitss]; rw [fits_ren s f, fitss_ren ss fs]
end

theorem keysGe_lk {n : Nat} : ∀ {ρ : List (Nat × Nat)}, keysGe n ρ = true → ∀ o, o < n → renId ρ o = o
  | [], _, o, _ => rfl
  | (k, v) :: ρ, h, o, ho => by
    simp only [keysGe, Bool.and_eq_true] at h
    have hk := Nat.le_of_ble_eq_true h.1
    have ih := keysGe_lk h.2 o ho
    unfold renId at ih ⊢
    rw [lk_cons, if_neg (by omega)]
    exact ih

theorem imgsNew_inj {ρ : List (Nat × Nat)} : ∀ {hs : Hp} {l : List Nat}, imgsNew ρ hs l = true → (∀ o vo, (o, vo) ∈ hs → renId ρ o ∉ l) ∧ ∀ o vo o' vo', (o, vo) ∈ hs → (o', vo') ∈ hs → renId ρ o = renId ρ o' → o = o' ∧ vo = vo'
  | [], l, _ => ⟨fun o vo h => by simp at h, fun o vo o' vo' h => by simp at h⟩
  | (k, v) :: hs, l, h => by
    simp only [imgsNew, Bool.and_eq_true, Bool.not_eq_true'] at h
    obtain ⟨i1, i2⟩ := imgsNew_inj h.2
    have hk : renId ρ k ∉ l := fun hm => by rw [memN_iff.2 hm] at h; simp at h
    constructor
    · intro o vo hm
      rcases List.mem_cons.1 hm with e | hm
      · simp only [Prod.mk.injEq] at e; rw [e.1]; exact hk
      · exact fun h9 => i1 o vo hm (List.mem_cons_of_mem _ h9)
    · intro o vo o' vo' h1 h2 he
      rcases List.mem_cons.1 h1 with e1 | h1 <;> rcases List.mem_cons.1 h2 with e2 | h2
      · simp only [Prod.mk.injEq] at e1 e2; rw [e1.1, e2.1, e1.2, e2.2]; exact ⟨rfl, rfl⟩
      · simp only [Prod.mk.injEq] at e1; rw [e1.1] at he
        exact absurd (by rw [← he]; simp) (i1 o' vo' h2)
      · simp only [Prod.mk.injEq] at e2; rw [e2.1] at he
        exact absurd (by rw [he]; simp) (i1 o vo h1)
      · exact i2 o vo o' vo' h1 h2 he

theorem envEq_lk {ρ : List (Nat × Nat)} {B : Env} : ∀ {A : Env}, envEq ρ B A → ∀ t h, lk A t = some h → lk B t = some (Vm.ren ρ h)
  | [], _, t, h, hl => by simp [lk] at hl
  | (k, v) :: A, he, t, h, hl => by
    simp only [envEq] at he
    rw [lk_cons] at hl
    split at hl
    · rename_i e; subst e; simp only [Option.some.injEq] at hl; subst hl; exact he.1
    · exact envEq_lk he.2 t h hl
theorem hpEq_lk {ρ : List (Nat × Nat)} {B : Hp} : ∀ {A : Hp}, hpEq ρ B A → ∀ t h, lk A t = some h → hpAt ρ B t h = some (renVO ρ h)
  | [], _, t, h, hl => by simp [lk] at hl
  | (k, v) :: A, he, t, h, hl => by
    simp only [hpEq] at he
    rw [lk_cons] at hl
    split at hl
    · rename_i e; subst e; simp only [Option.some.injEq] at hl; subst hl; exact he.1
    · exact hpEq_lk he.2 t h hl

theorem rens_len {ρ : List (Nat × Nat)} : ∀ fs : List HV, (rens ρ fs).length = fs.length
  | [] => rfl
  | _ :: fs => by simp only [rens, List.length_cons, rens_len fs]
def isFroz : VO → Bool
  | .froz _ _ => true
  | _ => false
theorem frozen_idem (x : Option VO) : frozen (frozen x) = frozen x := by
  cases x with
  | none => rfl
  | some vo => cases vo <;> rfl
theorem freezeAll {w : World} {hp : Hp} {g : Ghost} {loc : Loc} (H : HeapRel w0 hp g loc w) : ∀ l : List Nat, ∃ G hp', HeapRel w0 hp' G loc w ∧ g.le G ∧ ∀ k, (k ∉ l → lk hp' k = lk hp k) ∧ (k ∈ l → lk hp' k = frozen (lk hp k))
  | [] => ⟨g, hp, H, Ghost.le_refl g, fun k => ⟨fun _ => rfl, fun h => by simp at h⟩⟩
  | k0 :: l => by
    obtain ⟨G, hp', H', hg, hk⟩ := freezeAll H l
    by_cases hm : k0 ∈ l
    · refine ⟨G, hp', H', hg, fun k => ⟨fun h => (hk k).1 fun h2 => h (by simp [h2]), fun h => ?_⟩⟩
      rcases List.mem_cons.1 h with rfl | h
      · exact (hk _).2 hm
      · exact (hk _).2 h
    · have h0 := (hk k0).1 hm
      cases hc : lk hp k0 with
      | none =>
        refine ⟨G, hp', H', hg, fun k => ⟨fun h => (hk k).1 fun h2 => h (by simp [h2]), fun h => ?_⟩⟩
        rcases List.mem_cons.1 h with rfl | h
        · rw [h0, hc]; rfl
        · exact (hk _).2 h
      | some vo =>
        cases vo with
        | grow s xs =>
          rw [hc] at h0
          obtain ⟨H2, m1, _⟩ := H'.freeze h0
          refine ⟨_, _, H2, Ghost.le_trans hg m1, fun k => ⟨fun h => ?_, fun h => ?_⟩⟩
          · rw [lk_cons, if_neg fun e => h (by simp [e])]
            exact (hk k).1 fun h2 => h (by simp [h2])
          · rw [lk_cons]
            split
            · rename_i e; subst e; rw [hc]; rfl
            · rename_i e
              rcases List.mem_cons.1 h with rfl | h
              · exact absurd rfl e
              · exact (hk _).2 h
        | _ =>
          refine ⟨G, hp', H', hg, fun k => ⟨fun h => (hk k).1 fun h2 => h (by simp [h2]), fun h => ?_⟩⟩
          rcases List.mem_cons.1 h with rfl | h
          · rw [h0, hc]; rfl
          · exact (hk _).2 h

/-- Some names are forgotten, some are read anew. -/
theorem covers_rel {mk : MB} {n0 N : Nat} {A B : ST} (hc : covers n0 A B) {g : Ghost} {loc : Loc} {a : Act} {w : World} (F : FRel mk g loc N B.1 [] a) (H : HeapN w0 B.2.1 B.2.2 g loc w) :
    ∃ g' loc', g.le g' ∧ (∀ o, o < n0 → loc' o = loc o) ∧ FRel mk g' loc' N A.1 [] a ∧ HeapN w0 A.2.1 A.2.2 g' loc' w := by
  obtain ⟨ρ, hb, he, hh⟩ := hc
  simp only [Bool.and_eq_true] at hb
  obtain ⟨⟨⟨⟨⟨⟨hn, hk⟩, hi⟩, hel⟩, hhl⟩, hbig⟩, hbigA⟩ := hb
  have hbig' := Nat.le_of_ble_eq_true hbig
  have hbigA' := Nat.le_of_ble_eq_true hbigA
  have hn' := Nat.le_of_ble_eq_true hn
  obtain ⟨_, hinj⟩ := imgsNew_inj hi
  let loc' : Loc := fun o => if o < A.2.2 then (if Nat.ble 1000000 (renId ρ o) = true then some .nil else loc (renId ρ o)) else none
  have hl0 : ∀ o, o < A.2.2 → Nat.ble 1000000 (renId ρ o) = false → loc' o = loc (renId ρ o) := fun o ho h => by show (if o < A.2.2 then (if Nat.ble 1000000 (renId ρ o) = true then some .nil else loc (renId ρ o)) else none) = _; rw [if_pos ho, if_neg (by rw [h]; exact Bool.false_ne_true)]
  have hnone : ∀ o, Nat.ble 1000000 (renId ρ o) = true → loc (renId ρ o) = none := fun o h => H.2 _ (Nat.le_trans hbig' (Nat.le_of_ble_eq_true h))
  have hnil : ∀ o, o < A.2.2 → Nat.ble 1000000 (renId ρ o) = true → loc' o = some .nil := fun o ho h => by show (if o < A.2.2 then (if Nat.ble 1000000 (renId ρ o) = true then some .nil else loc (renId ρ o)) else none) = _; rw [if_pos ho, if_pos h]
  have hl : ∀ o, o < A.2.2 → ∀ x, loc (renId ρ o) = some x → loc' o = some x := fun o ho x hx => by
    rw [hl0 o ho (by cases hb : Nat.ble 1000000 (renId ρ o) with | false => rfl | true => rw [hnone o hb] at hx; cases hx)]; exact hx
  have hl' : ∀ o, o < A.2.2 → (∀ x, loc (renId ρ o) = some x → loc' o = some x) ∧ (Nat.ble 1000000 (renId ρ o) = true → loc' o = some .nil) := fun o ho => ⟨hl o ho, hnil o ho⟩
  have hback : ∀ o, o < A.2.2 → ∀ x b, loc' o = some x → x.blk = some b → loc (renId ρ o) = some x ∧ Nat.ble 1000000 (renId ρ o) = false := fun o ho x b hx hb => by
    cases h : Nat.ble 1000000 (renId ρ o) with
    | true => rw [hnil o ho h] at hx; simp only [Option.some.injEq] at hx; subst hx; simp [Place.blk] at hb
    | false => rw [hl0 o ho h] at hx; exact ⟨hx, rfl⟩
  obtain ⟨G, hpB, HB, hgG, hfz⟩ := freezeAll H.1 ((A.2.1.filter fun p => isFroz p.2).map fun p => renId ρ p.1)
  have hget : ∀ {o vo}, lk A.2.1 o = some vo → Nat.ble 1000000 (renId ρ o) = false → lk hpB (renId ρ o) = some (renVO ρ vo) := fun {o vo} h1 h2 => by
    have h3 := hpEq_lk hh _ _ h1
    unfold hpAt at h3
    rw [h2] at h3
    by_cases hf : isFroz vo = true
    · have hm : renId ρ o ∈ (A.2.1.filter fun p => isFroz p.2).map fun p => renId ρ p.1 := List.mem_map.2 ⟨(o, vo), List.mem_filter.2 ⟨lk_mem h1, hf⟩, rfl⟩
      rw [(hfz _).2 hm]
      cases vo <;> simp [isFroz] at hf
      exact h3
    · have hm : renId ρ o ∉ (A.2.1.filter fun p => isFroz p.2).map fun p => renId ρ p.1 := by
        intro hm
        obtain ⟨⟨o', vo'⟩, m1, m2⟩ := List.mem_map.1 hm
        obtain ⟨m3, m4⟩ := List.mem_filter.1 m1
        obtain ⟨_, rfl⟩ := hinj o' vo' o vo m3 (lk_mem h1) m2
        exact hf m4
      rw [(hfz _).1 hm]
      cases vo <;> first | exact h3 | simp [isFroz] at hf
  have hlive : ∀ {o vo} x b, lk A.2.1 o = some vo → vo.live = true → loc' o = some x → x.blk = some b → lk hpB (renId ρ o) = some (renVO ρ vo) ∧ (renVO ρ vo).live = true ∧ loc (renId ρ o) = some x := fun {o vo} x b h1 h2 h3 h4 => by
    obtain ⟨k1, k2⟩ := hback o (hpLt_lk hhl _ _ h1).1 x b h3 h4
    exact ⟨hget h1 k2, by cases vo <;> simp_all [renVO, VO.live], k1⟩
  have FG := F.mono hgG (Loc.le_refl loc)
  refine ⟨G, loc', hgG, fun o ho => ?_, ⟨FG.size, FG.defers, FG.old, ?_, fun t k h hl => by simp [lk] at hl, fun t k h hl => by simp [lk] at hl⟩, ⟨?_, ?_, HB.ghost, ?_, ?_, HB.ext, HB.size, HB.old, HB.still⟩, fun o ho => by simp [loc', Nat.not_lt.2 ho]⟩
  · have h1 := keysGe_lk hk o ho
    rw [hl0 o (Nat.lt_of_lt_of_le ho hn') (by
      rw [h1]
      cases h : Nat.ble 1000000 o with
      | false => rfl
      | true => have := Nat.le_of_ble_eq_true h; omega), h1]
  · intro t h h1 h2
    exact HRel.ren hl' (envLt_lk hel t h h2) (FG.base t _ rfl (envEq_lk he t h h2))
  · intro o vo h1
    obtain ⟨ho, hid, hid2, hid3⟩ := hpLt_lk hhl _ _ h1
    cases hb : Nat.ble 1000000 (renId ρ o) with
    | true =>
      have h3 := hpEq_lk hh _ _ h1
      unfold hpAt at h3
      rw [hb] at h3
      cases vo with
      | grow s xs =>
        simp only [nilVO, renVO, Option.some.injEq, VO.grow.injEq, true_and] at h3
        exact .inl ⟨hnil o ho hb, h3.symm⟩
      | _ => simp [nilVO] at h3
    | false =>
    have h2 := HB.obj _ _ (hget h1 hb)
    cases vo with
    | box s v =>
      simp only [renVO] at h2
      obtain ⟨b, cap, len, T, vs, k1, k2, k3, k4, k5⟩ := h2
      exact ⟨b, cap, len, T, vs, hl _ ho _ k1, k2, k3, by rw [← fits_ren]; exact k4, HC.ren hl' (hid _ _ rfl) k5⟩
    | grow s xs =>
      simp only [renVO] at h2
      rcases h2 with ⟨k1, k2⟩ | ⟨b, cap, T, cs, k1, k2⟩
      · exact .inl ⟨hl _ ho _ k1, k2⟩
      · exact .inr ⟨b, cap, T, cs, hl _ ho _ k1, k2⟩
    | loop st =>
      simp only [renVO] at h2
      obtain ⟨b, r, k1, k2⟩ := h2
      exact ⟨b, r, hl _ ho _ k1, k2⟩
    | map ks vs es =>
      simp only [renVO] at h2
      obtain ⟨b, arr, k1, k2⟩ := h2
      exact ⟨b, arr, hl _ ho _ k1, k2⟩
    | iter om since last seen =>
      simp only [renVO] at h2
      obtain ⟨b, bm, k1, k2, k3⟩ := h2
      exact ⟨b, bm, hl _ ho _ k1, hl _ (hid2 _ _ _ _ rfl) _ k2, k3⟩
    | vec fs =>
      simp only [renVO] at h2
      obtain ⟨b, T, vs, k1, k2, k3⟩ := h2
      have el : ∀ fs : List HV, (rens ρ fs).length = fs.length := rens_len
      rw [el] at k1 k3
      exact ⟨b, T, vs, hl _ ho _ k1, k2, HCs.ren hl' (hid3 _ rfl) k3⟩
    | froz s xs =>
      simp only [renVO] at h2
      rcases h2 with ⟨k1, k2⟩ | ⟨b, cap, T, cs, k1, k2⟩
      · exact .inl ⟨hl _ ho _ k1, k2⟩
      · exact .inr ⟨b, cap, T, cs, hl _ ho _ k1, k2⟩
    | dead => exact trivial
  · intro o o' vo vo' b x x' h1 h2 l1 l2 e1 e2 b1 b2
    obtain ⟨m1, m2, m3⟩ := hlive x b h1 l1 e1 b1
    obtain ⟨n1, n2, n3⟩ := hlive x' b h2 l2 e2 b2
    exact (hinj o vo o' vo' (lk_mem h1) (lk_mem h2) (HB.inj _ _ _ _ b x x' m1 n1 m2 n2 m3 n3 b1 b2)).1
  · intro o vo b x h1 l1 e1 b1
    obtain ⟨m1, m2, m3⟩ := hlive x b h1 l1 e1 b1
    exact HB.sep _ _ b x m1 m2 m3 b1
  · intro o vo b x h1 l1 e1 b1
    obtain ⟨m1, m2, m3⟩ := hlive x b h1 l1 e1 b1
    exact HB.low _ _ b x m1 m2 m3 b1
end
end Go.Vm
