/- A region that draws its order: what the evaluator has shown of the text's order holds of every order. Part 3: every order. -/
import Derived.Test.YtjcfnooplhoheaaVmW
noncomputable section
namespace Go.Vm
open Go
open Classical
set_option linter.unusedSimpArgs false

/-- Nothing of the new objects but those of the operations that are done. -/
def FreshAt (nx n : Nat) (L : Nat → Bool) (loc : Loc) : Prop := ∀ o, nx ≤ o → (∀ i, i < n → L i = true → o ≠ nx + 2 * i ∧ o ≠ nx + 2 * i + 1) → loc o = none

structure DInv (B : MB) (w0 : Base) (N : Nat) (e : Env) (hp : Hp) (nx : Nat) (all : List Oper) (R : Nat → Rec) (g : Ghost) (loc : Loc) (L : Nat → Bool) (a : Act) (w : World) : Prop where
  F : FRel B g loc N e (reAt R L all.length) a
  H : HeapRel w0 (hAt a.tmps (rhAt R L all.length) hp) g loc w
  fresh : FreshAt nx all.length L loc
  closed : ∀ j oj, all[j]? = some oj → L j = true → ∀ x ∈ oj.after, Region.binds .any x = true → L x.on = true

theorem conf_spec {a b : Rec} (h : conf a b = false) : (∀ d, a.dst = some d → d ∉ b.used) ∧ (∀ d, b.dst = some d → d ∉ a.used) ∧ (∀ d, a.dst = some d → b.dst ≠ some d) ∧
    (∀ o, turns a o → o ∉ b.ids) ∧ (∀ o, turns b o → o ∉ a.ids) ∧ (∀ o, turns a o → ¬ turns b o) := by
  simp only [conf, Bool.or_eq_false_iff] at h
  obtain ⟨⟨⟨⟨⟨h1, h2⟩, h3⟩, h4⟩, h5⟩, h6⟩ := h
  have inter : ∀ (us : List (Nat × VO)) (l : List Nat), interU us l = false → ∀ o, lk us o ≠ none → o ∉ l := by
    intro us
    induction us with
    | nil => intro l _ o ho; simp [lk] at ho
    | cons u us ih =>
      intro l h o ho
      obtain ⟨k, vo⟩ := u
      simp only [interU, Bool.or_eq_false_iff] at h
      rw [lk_cons] at ho
      split at ho
      · rename_i e; subst e
        intro hm
        rw [memN_iff.2 hm] at h
        simp at h
      · exact ih l h.2 o ho
  have interUU : ∀ (us vs : List (Nat × VO)), interUU us vs = false → ∀ o, lk us o ≠ none → lk vs o = none := by
    intro us
    induction us with
    | nil => intro l _ o ho; simp [lk] at ho
    | cons u us ih =>
      intro vs h o ho
      obtain ⟨k, vo⟩ := u
      simp only [Vm.interUU, Bool.or_eq_false_iff] at h
      rw [lk_cons] at ho
      split at ho
      · rename_i e; subst e
        cases hv : lk vs k with
        | none => rfl
        | some v => rw [hv] at h; simp at h
      · exact ih vs h.2 o ho
  refine ⟨?_, ?_, ?_, ?_, ?_, ?_⟩
  · intro d hd hm
    rw [hd] at h1
    simp only [dstIn] at h1
    rw [memN_iff.2 hm] at h1; cases h1
  · intro d hd hm
    rw [hd] at h2
    simp only [dstIn] at h2
    rw [memN_iff.2 hm] at h2; cases h2
  · intro d hd hd'
    rw [hd, hd'] at h3
    simp [dstEq] at h3
  · exact fun o ho => inter _ _ h4 o ho
  · exact fun o ho => inter _ _ h5 o ho
  · intro o ho h9
    exact h9 (interUU _ _ h6 o ho)

theorem mem_keySlots {s : Nat} {b x : Bool} : ∀ {k : Key}, (s, b, x) ∈ k → s ∈ keySlots k
  | (s', b', x') :: k, h => by
    rcases List.mem_cons.1 h with h | h
    · simp only [Prod.mk.injEq] at h; simp [keySlots, h.1]
    · simp [keySlots, mem_keySlots h]

theorem keySlot_of_not_mem {d : Nat} : ∀ {k : Key}, d ∉ keySlots k → ∀ x ∈ k, x.1 ≠ d
  | (s, b, y) :: k, h, x, hx => by
    simp only [keySlots, List.mem_cons, not_or] at h
    rcases List.mem_cons.1 hx with rfl | hx
    · exact fun e => h.1 e.symm
    · exact keySlot_of_not_mem h.2 x hx

theorem mem_opTmps {t : Nat} : ∀ {xs : List Operand}, Operand.tmp t ∈ xs → t ∈ opTmps xs
  | x :: xs, h => by
    rcases List.mem_cons.1 h with rfl | h
    · simp [opTmps]
    · have ih := mem_opTmps h
      cases x <;> simp [opTmps, ih]

theorem lk_mem {α : Type} {o : Nat} {v : α} : ∀ {l : List (Nat × α)}, lk l o = some v → (o, v) ∈ l
  | [], h => by simp [lk] at h
  | (k, v') :: l, h => by
    rw [lk_cons] at h
    split at h
    · rename_i e; subst e; simp only [Option.some.injEq] at h; subst h; simp
    · exact List.mem_cons_of_mem _ (lk_mem h)

theorem resH_lk {rh : RH} {hp : Hp} {key : Key} {o : Nat} {vo : VO} : ∀ {ids : List Nat}, lk (resH rh hp key ids) o = some vo → o ∈ ids ∧ ((∃ k, lk rh o = some (k, vo) ∧ keyLe k key = true) ∨ (lk rh o = none ∧ lk hp o = some vo))
  | [], h => by simp [resH, lk] at h
  | i :: ids, h => by
    simp only [resH] at h
    split at h
    · rename_i k v hk
      split at h
      · rename_i hle
        rw [lk_cons] at h
        split at h
        · rename_i e; subst e
          simp only [Option.some.injEq] at h; subst h
          exact ⟨by simp, .inl ⟨k, hk, hle⟩⟩
        · obtain ⟨h1, h2⟩ := resH_lk h; exact ⟨by simp [h1], h2⟩
      · obtain ⟨h1, h2⟩ := resH_lk h; exact ⟨by simp [h1], h2⟩
    · rename_i hk
      split at h
      · rename_i v hv
        rw [lk_cons] at h
        split at h
        · rename_i e; subst e
          simp only [Option.some.injEq] at h; subst h
          exact ⟨by simp, .inr ⟨hk, hv⟩⟩
        · obtain ⟨h1, h2⟩ := resH_lk h; exact ⟨by simp [h1], h2⟩
      · obtain ⟨h1, h2⟩ := resH_lk h; exact ⟨by simp [h1], h2⟩

section
variable {B : MB} {Fe : Fence} {fn : Nat} {P : Program} {c : Ctx} {w0 : Base} {N : Nat} {e : Env} {hp : Hp} {nx : Nat} {all : List Oper} {R : Nat → Rec}

theorem vop0_nx2 {c : Ctx} {nx : Nat} {ρ : Operand → HV} {hp : Hp} {ty : Nat} {op : Op} {ef : Ef} (h : vop0 c nx ρ hp ty op = some ef) : ef.nx ≤ nx + 2 := by
  cases op <;> simp only [vop0, reduceCtorEq] at h
  case call cl =>
    obtain ⟨callee, args, tys⟩ := cl
    cases callee with
    | builtin b => cases b <;> simp only [vop0, reduceCtorEq] at h <;> (repeat' split at h) <;> first | (simp only [Option.some.injEq] at h; subst h; first | exact Nat.le_add_right _ _ | exact Nat.le_refl _ | exact Nat.le_succ _) | cases h
    | invoke r m => simp [vop0] at h
    | value f =>
      simp only [vop0, fHVsO_eq] at h
      split at h
      · unfold doCall mutCall at h
        (repeat' split at h) <;> first | (simp only [Option.some.injEq] at h; subst h; exact Nat.le_add_right _ _) | cases h
      · cases h
  case makeFunc fn first caps => cases fn <;> simp only [vop0, reduceCtorEq] at h <;> (repeat' split at h) <;> first | (simp only [Option.some.injEq] at h; subst h; exact Nat.le_add_right _ _) | cases h
  all_goals ((repeat' split at h) <;> first | (simp only [Option.some.injEq] at h; subst h; first | exact Nat.le_add_right _ _ | exact Nat.le_refl _ | exact Nat.le_succ _) | cases h)
theorem vop_nx2 {c : Ctx} {nx : Nat} {ρ : Operand → HV} {hp : Hp} {ty : Nat} {op : Op} {ef : Ef} (h : vop c nx ρ hp ty op = some ef) : ef.nx ≤ nx + 2 := by
  obtain ⟨ef0, h0, rfl⟩ := vop_some h
  have := vop0_nx2 h0
  exact this

/-- **One operation, whenever its turn comes.** -/
theorem draw_step (hFo : FOK Fe) (hC : CtxOK P c) (hfacts : ∀ j, j < all.length → ∃ o, all[j]? = some o ∧ OpFact c N e hp nx all R j o) {Q : Exit → Act → World → Prop} {g : Ghost} {loc : Loc} {L L' : Nat → Bool} {a : Act} {w : World} {i : Nat} {o : Oper}
    (D : DInv B w0 N e hp nx all R g loc L a w) (ho : all[i]? = some o) (hi : L i = false) (hready : ∀ x ∈ o.after, Region.binds .any x = true → L x.on = true)
    (hL : ∀ j, j ≠ i → L' j = L j) (hi' : L' i = true) {K : Act → World → Prop} (hK : ∀ g' loc' a' w', g.le g' → loc.le loc' → DInv B w0 N e hp nx all R g' loc' L' a' w' → K a' w') :
    wpOpIn Fe fn P all.toArray Q i K a w := by
  have hil : i < all.length := (List.getElem?_eq_some_iff.1 ho).1
  obtain ⟨o', ho', F⟩ := hfacts i hil
  rw [ho] at ho'; simp only [Option.some.injEq] at ho'; subst ho'
  -- what conflicts is in its order
  have hbefore : ∀ j, j < i → conf (R j) (R i) = true → L j = true := by
    intro j hj hc
    exact reachA_done (fun j oj hoj hLj x hx hb => D.closed j oj hoj hLj x hx hb) o j hready (F.conf j hj hc)
  have hafter : ∀ j, i < j → j < all.length → L j = true → conf (R i) (R j) = false := by
    intro j hj hjl hLj
    cases hc : conf (R i) (R j) with
    | false => rfl
    | true =>
      obtain ⟨oj, hoj, Fj⟩ := hfacts j hjl
      have := reachA_done (fun j oj hoj hLj x hx hb => D.closed j oj hoj hLj x hx hb) oj i (fun x hx hb => D.closed j oj hoj hLj x hx hb) (Fj.conf i hj hc)
      rw [hi] at this; cases this
  have hconf_before : ∀ j, j < i → L j = false → conf (R j) (R i) = false := by
    intro j hj hLj
    cases hc : conf (R j) (R i) with
    | false => rfl
    | true => rw [hbefore j hj hc] at hLj; cases hLj
  -- the temporaries that it looks at stand as in the text's order
  have hslot : ∀ t, t ∈ (R i).used → lk (reAt R L all.length) t = lk (reAt R every i) t := by
    intro t ht
    rw [reAt_skip (i := i) all.length (by omega)]
    · refine reAt_same i fun j hj hd => ?_
      cases hLj : L j with
      | true => rfl
      | false => exact absurd ht ((conf_spec (hconf_before j hj hLj)).1 t hd)
    · intro j hij hjl hd
      by_cases hji : j = i
      · subst hji; exact hi
      · cases hLj : L j with
        | false => rfl
        | true => exact absurd ht ((conf_spec (hafter j (by omega) hjl hLj)).2.1 t hd)
  have hused := F.used
  have hrho : ∀ al x, (∀ t, x = .tmp t → t ∈ (R i).used) → rho e (reAt R L all.length) al x = rho e (reAt R every i) al x := by
    intro al x hx
    cases x with
    | tmp t => simp only [rho, hslot t (hx t rfl)]
    | _ => rfl
  have hopd : ∀ x ∈ o.op.operands, ∀ t, x = .tmp t → t ∈ (R i).used := by
    intro x hx t hxt
    subst hxt
    rw [hused]
    exact List.mem_append_right _ (mem_opTmps (by simpa using hx))
  -- its key
  have hkey : keyOf (reAt R L all.length) all o.guard = some (R i).key := by
    have hk := F.key
    cases hgd : o.guard with
    | none => rw [hgd] at hk; simpa [keyOf] using hk
    | some jw =>
      obtain ⟨j, want⟩ := jw
      rw [hgd] at hk
      simp only [keyOf] at hk ⊢
      split at hk
      · rename_i oj hoj
        split at hk
        · rename_i s hs
          have hks : s ∈ keySlots (R i).key := by
            split at hk
            · simp only [Option.some.injEq] at hk; rw [← hk]; simp [keySlots]
            · cases hk
          rw [hslot s (by rw [hused]; exact List.mem_append_left _ hks)]
          exact hk
        · cases hk
      · cases hk
  obtain ⟨hw, hks⟩ := keyOf_wanted D.F hkey o rfl
  -- its temporary
  have hdok := F.dstOK
  have hfree : ∀ d, o.dst = some d → d < N ∧ (∀ t k h, lk (reAt R L all.length) t = some (k, h) → ∀ x ∈ k, x.1 ≠ d) ∧ (∀ x ∈ (R i).key, x.1 ≠ d) := by
    intro d hd
    rw [hd] at hdok
    simp only [dstOK, Bool.and_eq_true, Bool.not_eq_true'] at hdok
    obtain ⟨⟨h1, h2⟩, h3⟩ := hdok
    refine ⟨blt_lt h1, ?_, keySlot_spec h3⟩
    intro t k h hl x hx
    obtain ⟨j, k1, k2, k3, k4, k5⟩ := reAt_mem _ hl
    subst k4
    by_cases hji : j < i
    · exact keyFree_all h2 _ (reAt_has k3 i hji) x hx
    · have hne : j ≠ i := by intro e; rw [e, hi] at k2; cases k2
      have := (conf_spec (hafter j (by omega) k1 k2)).1 d (by rw [F.dst, hd])
      obtain ⟨oj, hoj, Fj⟩ := hfacts j k1
      rw [Fj.used] at this
      exact keySlot_of_not_mem (fun hm => this (List.mem_append_left _ hm)) x hx
  -- the keys of what is done, and its own, do not hang on its temporary
  have hput : ∀ v, ∀ k, ((∃ j, j < all.length ∧ L j = true ∧ (R j).key = k) ∨ k = (R i).key) → (KeyHolds (a.put o.dst v).tmps k ↔ KeyHolds a.tmps k) := by
    intro v k hk
    cases hd : o.dst with
    | none => exact Iff.rfl
    | some d =>
      simp only [Act.put]
      refine holds_put ?_
      rcases hk with ⟨j, h1, h2, rfl⟩ | rfl
      · by_cases hji : j < i
        · rw [hd] at hdok
          simp only [dstOK, Bool.and_eq_true, Bool.not_eq_true'] at hdok
          cases hdj : (R j).dst with
          | some t => exact keyFree_all hdok.1.2 _ (reAt_has hdj i hji)
          | none =>
            obtain ⟨oj, hoj, Fj⟩ := hfacts j h1
            have hdk := Fj.dstOK
            rw [← Fj.dst, hdj] at hdk
            simp only [dstOK] at hdk
            split at hdk
            · rename_i hk0; intro x hx; rw [hk0] at hx; simp at hx
            · cases hdk
        · have hne : j ≠ i := by intro e; rw [e, hi] at h2; cases h2
          have := (conf_spec (hafter j (by omega) h1 h2)).1 d (by rw [F.dst, hd])
          obtain ⟨oj, hoj, Fj⟩ := hfacts j h1
          rw [Fj.used] at this
          exact keySlot_of_not_mem (fun hm => this (List.mem_append_left _ hm))
      · exact (hfree d hd).2.2
  -- the state behind it
  have mk : ∀ g' loc' v w', g.le g' → loc.le loc' → (KeyHolds a.tmps (R i).key → HRel g' loc' (R i).hv v) → (¬ KeyHolds a.tmps (R i).key → v = undef) →
      HeapRel w0 (if KeyHolds a.tmps (R i).key then (R i).upd ++ hAt a.tmps (rhAt R L all.length) hp else hAt a.tmps (rhAt R L all.length) hp) g' loc' w' →
      (∀ x, x ≠ nx + 2 * i → x ≠ nx + 2 * i + 1 → loc' x = loc x) → DInv B w0 N e hp nx all R g' loc' L' (a.put o.dst v) w' := by
    intro g' loc' v w' hg hl h1 h2 H' hloc
    refine { F := ?_, H := ?_, fresh := ?_, closed := ?_ }
    · have F1 := D.F.mono hg hl
      refine FRel.congr (re := addRe (R i).dst (R i).key (R i).hv (reAt R L all.length)) (fun t => reAt_insert hL hi hi' t all.length hil fun j hj1 hj2 hj3 d hd => (conf_spec (hafter j hj1 hj2 hj3)).2.2.1 d hd) ?_
      rw [F.dst]
      cases hd : o.dst with
      | none => exact F1
      | some d =>
        obtain ⟨k1, k2, k3⟩ := hfree d hd
        exact FRel.put F1 k1 k2 k3 h1 h2 hks
    · rw [hAt_congr (tmps := a.tmps)]
      · exact HeapRel.congr (fun x => hAt_insert hL hi hi' x all.length hil fun j hj1 hj2 hj3 y hy => (conf_spec (hafter j hj1 hj2 hj3)).2.2.2.2.2 y hy) H'
      · intro x hx
        obtain ⟨j, k1, k2, k3, k4⟩ := rhAt_mem _ x hx
        refine hput v _ ?_
        by_cases hji : j = i
        · subst hji; exact .inr k4.symm
        · exact .inl ⟨j, k1, by rw [← hL j hji]; exact k2, k4⟩
    · intro x hx hn
      have hxi := hn i hil hi'
      rw [hloc x hxi.1 hxi.2]
      refine D.fresh x hx fun j hj hLj => ?_
      by_cases hji : j = i
      · subst hji; exact hxi
      · exact hn j hj (by rw [hL j hji]; exact hLj)
    · intro j oj hoj hLj x hx hb
      by_cases hxi : x.on = i
      · rw [hxi]; exact hi'
      · rw [hL _ hxi]
        by_cases hji : j = i
        · subst hji
          rw [ho] at hoj; simp only [Option.some.injEq] at hoj; subst hoj
          exact hready x hx hb
        · exact D.closed j oj hoj (by rw [← hL j hji]; exact hLj) x hx hb
  have hget : all.toArray[i]? = some o := by simpa using ho
  unfold wpOpIn
  simp only [hget]
  split
  · rename_i hwant
    have hkh := hw.1 hwant
    rcases F.does with ⟨pa, ta, px, py, b, hop, hpa, hupd, hb, hpick⟩ | ⟨hnp, hids, hkeyed, nx', pre, hvop, hpre⟩
    · subst hpa
      have m1 : ∀ al, rho e (reAt R L all.length) al (.tmp ta) = rho e (reAt R every i) al (.tmp ta) := fun al => hrho al _ (hopd _ (by rw [hop]; simp [Op.operands]))
      have m2 : ∀ al, rho e (reAt R L all.length) al px = rho e (reAt R every i) al px := fun al => hrho al _ (hopd _ (by rw [hop]; simp [Op.operands]))
      have m3 : ∀ al, rho e (reAt R L all.length) al py = rho e (reAt R every i) al py := fun al => hrho al _ (hopd _ (by rw [hop]; simp [Op.operands]))
      rw [← m1] at hb
      rw [← m2, ← m3] at hpick
      have hc := (hb ▸ rho_rel D.F hkh (.tmp ta)).bool
      refine Oper.wp_of_opwp hFo (by rw [hop]; simp) (K := fun v w' => v = (if b.bool then a.eval px else a.eval py) ∧ w' = w) ?_ ?_
      · simp only [execOp, hop, Sem.run_bind, hc, asBool, Sem.run_pure, Result.andThen_ok, OpWp]
        exact ⟨by trivial, by trivial⟩
      · rintro v w' ⟨rfl, rfl⟩
        refine hK g loc _ _ (Ghost.le_refl g) (Loc.le_refl loc) (mk g loc _ _ (Ghost.le_refl g) (Loc.le_refl loc) ?_ (fun hn => absurd hkh hn) ?_ (fun _ _ _ => rfl))
        · intro _
          refine pick_sound hpick (fun v hv => by rw [hv]; rfl) (fun v hv => by rw [hv]; rfl) (fun hbt => rho_rel D.F ?_ px) (fun hbf => rho_rel D.F ?_ py)
          · intro z hz
            rcases List.mem_cons.1 hz with rfl | hz
            · show a.tmps.getD ta undef = .bool true
              rw [← hbt, ← hc]; rfl
            · exact hkh z hz
          · intro z hz
            rcases List.mem_cons.1 hz with rfl | hz
            · show a.tmps.getD ta undef = .bool false
              rw [← hbf, ← hc]; rfl
            · exact hkh z hz
        · rw [if_pos hkh, hupd]; exact D.H
    · have hkc := keyCond_of D.F hkh hks
      have hmono : vop c (nx + 2 * i) (rho e (reAt R L all.length) (R i).key) (hAt a.tmps (rhAt R L all.length) hp) o.type o.op = some ⟨(R i).hv, (R i).upd, nx', pre⟩ := by
        refine vop_mono (fun x hx => (hrho _ x (hopd x hx)).symm) ?_ hvop
        intro x vo hx
        obtain ⟨h1, h2⟩ := resH_lk hx
        have hag : lk (rhAt R L all.length) x = lk (rhAt R every i) x := by
          rw [rhAt_skip (i := i) all.length (by omega)]
          · refine rhAt_same i fun j hj ht => ?_
            cases hLj : L j with
            | true => rfl
            | false => exact absurd h1 ((conf_spec (hconf_before j hj hLj)).2.2.2.1 x ht)
          · intro j hij hjl ht
            by_cases hji : j = i
            · subst hji; exact hi
            · cases hLj : L j with
              | false => rfl
              | true => exact absurd h1 ((conf_spec (hafter j (by omega) hjl hLj)).2.2.2.2.1 x ht)
        rcases h2 with ⟨k, h3, h4⟩ | ⟨h3, h4⟩
        · exact lk_hAt_some (by rw [hag]; exact h3) (keyLe_holds h4 hkh)
        · rw [lk_hAt_none (by rw [hag]; exact h3)]; exact h4
      have hf1 : loc (nx + 2 * i) = none := D.fresh _ (by omega) fun j hj hLj => by
        have : j ≠ i := by intro e2; rw [e2, hi] at hLj; cases hLj
        omega
      have hf2 : loc (nx + 2 * i + 1) = none := D.fresh _ (by omega) fun j hj hLj => by
        have : j ≠ i := by intro e2; rw [e2, hi] at hLj; cases hLj
        omega
      refine Oper.wp_of_opwp hFo (vop_nodefer hvop) (vop_sound hC (fun x => rho_rel D.F hkh x) (fun v => rfl) D.H hf1 hf2 hmono (hpre hkc)) ?_
      rintro v w' ⟨g', loc', hg, hl, hloc, H', hr⟩
      refine hK g' loc' _ _ hg hl (mk g' loc' v w' hg hl (fun _ => hr) (fun hn => absurd hkh hn) (by rw [if_pos hkh]; exact H') ?_)
      intro x h1 h2
      refine hloc x ?_
      have := vop_nx2 hvop
      simp only at this ⊢
      omega
  · rename_i hwant
    have hkh : ¬ KeyHolds a.tmps (R i).key := fun hh => hwant (hw.2 hh)
    exact ⟨fun f _ => hFo.fn f, hK g loc _ _ (Ghost.le_refl g) (Loc.le_refl loc) (mk g loc undef w (Ghost.le_refl g) (Loc.le_refl loc) (fun hh => absurd hh hkh) (fun _ => rfl) (by rw [if_neg hkh]; exact D.H) (fun _ _ _ => rfl))⟩

/-- **Every order.** -/
theorem draw_any (hFo : FOK Fe) (hC : CtxOK P c) (hfacts : ∀ j, j < all.length → ∃ o, all[j]? = some o ∧ OpFact c N e hp nx all R j o) {Q : Exit → Act → World → Prop} {g0 : Ghost} {loc0 : Loc}
    (hQ : ∀ g loc a w, g0.le g → loc0.le loc → DInv B w0 N e hp nx all R g loc every a w → Q .normal a w) :
    ∀ (fuel : Nat) (listed : Array Bool) (a : Act) (w : World) (g : Ghost) (loc : Loc), listed.size = all.length → ((List.range all.length).filter fun j => !listed.getD j false).length = fuel → g0.le g → loc0.le loc →
      DInv B w0 N e hp nx all R g loc (fun j => listed.getD j false) a w → wpAnyIn Fe fn P .any all.toArray Q fuel listed a w := by
  have hall : ∀ (listed : Array Bool), listed.size = all.length → (∀ j, j < all.length → listed.getD j false = true) → ∀ a w g loc, g0.le g → loc0.le loc → DInv B w0 N e hp nx all R g loc (fun j => listed.getD j false) a w → Q .normal a w := by
    intro listed hsz hd a w g loc hg hl D
    have e1 : ∀ k, k ≤ all.length → reAt R (fun j => listed.getD j false) k = reAt R every k ∧ rhAt R (fun j => listed.getD j false) k = rhAt R every k := by
      intro k
      induction k with
      | zero => intro _; exact ⟨rfl, rfl⟩
      | succ k ih =>
        intro hk
        obtain ⟨i1, i2⟩ := ih (by omega)
        rw [reAt_every, rhAt_every, ← i1, ← i2]
        simp only [reAt, rhAt, hd k (by omega), if_true]
        exact ⟨trivial, trivial⟩
    obtain ⟨i1, i2⟩ := e1 all.length (Nat.le_refl _)
    refine hQ g loc a w hg hl { F := by rw [← i1]; exact D.F, H := by rw [← i2]; exact D.H, fresh := ?_, closed := fun _ _ _ _ _ _ _ => rfl }
    intro x hx hn
    exact D.fresh x hx fun j hj _ => hn j hj rfl
  -- the least that is not done may come
  have least : ∀ (listed : Array Bool), listed.size = all.length → Region.ready .any all.toArray listed = [] → ∀ j, j < all.length → listed.getD j false = true := by
    intro listed hsz hr j
    induction j using Nat.strongRecOn with
    | _ j ih =>
      intro hj
      cases hl : listed.getD j false with
      | true => rfl
      | false =>
        exfalso
        obtain ⟨o, ho, F⟩ := hfacts j hj
        have : j ∈ Region.ready .any all.toArray listed := by
          rw [mem_ready]
          refine ⟨?_, o, by simpa using ho, fun x hx hb => ?_⟩
          · have : j < listed.size := by omega
            simp [this] at hl ⊢; exact hl
          · have := edgesBack_iff F.back x (by simpa using hx) hb
            exact ih x.on this (by omega)
        rw [hr] at this; cases this
  intro fuel
  induction fuel with
  | zero =>
    intro listed a w g loc hsz hcount hg hl D
    have hd : ∀ j, j < all.length → listed.getD j false = true := by
      intro j hj
      cases h : listed.getD j false with
      | true => rfl
      | false =>
        have : j ∈ (List.range all.length).filter fun j => !listed.getD j false := by rw [List.mem_filter, List.mem_range, h]; exact ⟨hj, rfl⟩
        rw [List.length_eq_zero_iff.1 hcount] at this
        cases this
    refine ⟨?_, hall listed hsz hd a w g loc hg hl D⟩
    cases hr : Region.ready .any all.toArray listed with
    | nil => rfl
    | cons j l =>
      exfalso
      have : j ∈ Region.ready .any all.toArray listed := by rw [hr]; simp
      obtain ⟨h1, o, h2, _⟩ := mem_ready.1 this
      have hj : j < all.length := by
        have := (Array.getElem?_eq_some_iff.1 h2).1
        simpa using this
      have := hd j hj
      have hjs : j < listed.size := by omega
      simp [hjs] at h1 this
      rw [h1] at this; cases this
  | succ fuel ih =>
    intro listed a w g loc hsz hcount hg hl D
    refine ⟨fun hr => hall listed hsz (least listed hsz hr) a w g loc hg hl D, ?_⟩
    intro i hi
    obtain ⟨h1, o, h2, h3⟩ := mem_ready.1 hi
    have ho : all[i]? = some o := by simpa using h2
    have hil : i < all.length := (List.getElem?_eq_some_iff.1 ho).1
    have his : i < listed.size := by omega
    have hun : listed.getD i false = false := by simp [his] at h1 ⊢; exact h1
    have hset : ∀ j, j ≠ i → (listed.setIfInBounds i true).getD j false = listed.getD j false := fun j hj => getD_set_ne false (Ne.symm hj)
    have hset' : (listed.setIfInBounds i true).getD i false = true := by simp [his]
    refine draw_step hFo hC hfacts D ho hun (fun x hx hb => h3 x (by simpa using hx) hb) (L' := fun j => (listed.setIfInBounds i true).getD j false) hset hset' ?_
    intro g' loc' a' w' hg' hl' D'
    refine ih (listed.setIfInBounds i true) a' w' g' loc' (by simpa using hsz) ?_ (Ghost.le_trans hg hg') (Loc.le_trans hl hl') D'
    have hcnt : ∀ (l : List Nat), l.Nodup → i ∈ l → (l.filter fun j => !listed.getD j false).length = (l.filter fun j => !(listed.setIfInBounds i true).getD j false).length + 1 := by
      intro l
      induction l with
      | nil => intro _ h; cases h
      | cons x l ihl =>
        intro hnd hm
        rw [List.nodup_cons] at hnd
        by_cases hx : x = i
        · subst hx
          have hnot : ∀ y ∈ l, (!(listed.setIfInBounds x true).getD y false) = (!listed.getD y false) := fun y hy => by rw [hset y (by rintro rfl; exact hnd.1 hy)]
          have e9 : (l.filter fun j => !(listed.setIfInBounds x true).getD j false) = l.filter fun j => !listed.getD j false := List.filter_congr hnot
          rw [List.filter_cons, List.filter_cons, hun, hset', e9]
          simp
        · have hm' : i ∈ l := by
            rcases List.mem_cons.1 hm with h | h
            · exact absurd h.symm hx
            · exact h
          have := ihl hnd.2 hm'
          rw [List.filter_cons, List.filter_cons, hset x hx]
          by_cases hb : (!listed.getD x false) = true
          · rw [if_pos hb, if_pos hb, List.length_cons, List.length_cons, this]
          · rw [if_neg hb, if_neg hb, this]
    have := hcnt (List.range all.length) List.nodup_range (List.mem_range.2 hil)
    omega
end
end Go.Vm
