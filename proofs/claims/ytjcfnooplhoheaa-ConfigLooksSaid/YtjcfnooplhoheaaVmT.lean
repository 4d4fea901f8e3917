/- What the evaluator makes of an operation hangs on its operands and on the objects that it finds. -/
import Derived.Test.YtjcfnooplhoheaaVmS
noncomputable section
namespace Go.Vm
open Go
set_option linter.unusedSimpArgs false

def Hp.le (hp hp' : Hp) : Prop := ∀ o vo, lk hp o = some vo → lk hp' o = some vo

mutual
theorem argD_mono {hp hp' : Hp} (hh : Hp.le hp hp') (hv : HV) (s : Sh) (d : D) (ha : argD hp s hv = some d) : argD hp' s hv = some d := by
  match hv, s, ha with
  | .dat s' e, s, ha => simp only [argD] at ha ⊢; exact ha
  | .own o s', s, ha =>
    cases s <;> simp only [argD, reduceCtorEq] at ha ⊢
    split at ha
    · rename_i hb
      split at ha
      · rename_i s2 xs ho
        rw [hh _ _ ho]
        exact ha
      · rename_i s2 xs ho
        rw [hh _ _ ho]
        exact ha
      · cases ha
    · cases ha
  | .cst v, s, ha => cases s <;> simp only [argD, reduceCtorEq] at ha ⊢; exact ha
  | .st ss' fs, s, ha =>
    cases s <;> simp only [argD, reduceCtorEq] at ha ⊢
    split at ha
    · split at ha
      · rename_i ds hds
        rw [argDs_mono hh fs _ ds hds]
        exact ha
      · cases ha
    · cases ha
  | .ptr .., s, ha => cases s <;> simp [argD] at ha
  | .gptr .., s, ha => cases s <;> simp [argD] at ha
  | .fn .., s, ha => cases s <;> simp [argD] at ha
  | .tup .., s, ha => cases s <;> simp [argD] at ha
  | .yld .., s, ha => cases s <;> simp [argD] at ha
  | .mp .., s, ha => cases s <;> simp [argD] at ha
  | .mit .., s, ha => cases s <;> simp [argD] at ha
  | .und, s, ha => cases s <;> simp [argD] at ha
termination_by SizeOf.sizeOf hv
theorem argDs_mono {hp hp' : Hp} (hh : Hp.le hp hp') (fs : List HV) (ss : List Sh) (ds : List D) (ha : argDs hp ss fs = some ds) : argDs hp' ss fs = some ds := by
  match fs, ss, ha with
  | [], [], ha => simp only [argDs] at ha ⊢; exact ha
  | f :: fs, s :: ss, ha =>
    simp only [argDs] at ha ⊢
    split at ha
    · rename_i e he
      split at ha
      · rename_i es hes
        rw [argD_mono hh f s e he, argDs_mono hh fs ss es hes]
        exact ha
      · cases ha
    · cases ha
  | [], _ :: _, ha => simp [argDs] at ha
  | _ :: _, [], ha => simp [argDs] at ha
termination_by SizeOf.sizeOf fs
end

theorem putFields_congr {ρ ρ' : Operand → HV} {ss : List Sh} : ∀ (ps : List (Nat × Operand)) (fs : List HV), (∀ p ∈ ps, ρ p.2 = ρ' p.2) → putFields ρ ss fs ps = putFields ρ' ss fs ps
  | [], fs, _ => rfl
  | (i, x) :: rest, fs, h => by
    have hx : ρ x = ρ' x := h (i, x) (by simp)
    simp only [putFields, hx]
    split
    · split
      · exact putFields_congr rest _ fun p hp => h p (by simp [hp])
      · rfl
    · rfl

theorem vecArgs_congr {ρ ρ' : Operand → HV} : ∀ (ps : List (Nat × Operand)) (j : Nat), (∀ p ∈ ps, ρ p.2 = ρ' p.2) → vecArgs ρ ps j = vecArgs ρ' ps j
  | [], j, _ => rfl
  | (i, x) :: rest, j, h => by
    have hx : ρ x = ρ' x := h (i, x) (by simp)
    simp only [vecArgs, hx, vecArgs_congr rest (j + 1) fun p hp => h p (by simp [hp])]
theorem bnd_congr {ρ ρ' : Operand → HV} {y : Option Operand} {n : Int} (h : ∀ x, y = some x → ρ x = ρ' x) : bnd ρ y n = bnd ρ' y n := by
  cases y with
  | none => rfl
  | some x => simp only [bnd, h x rfl]
theorem putElems_congr {ρ ρ' : Operand → HV} {s : Sh} : ∀ (ps : List (Nat × Operand)) (xs : List D), (∀ p ∈ ps, ρ p.2 = ρ' p.2) → vop0.putElems ρ s xs ps = vop0.putElems ρ' s xs ps
  | [], xs, _ => rfl
  | (i, x) :: rest, xs, h => by
    have hx : ρ x = ρ' x := h (i, x) (by simp)
    simp only [vop0.putElems, hx]
    split
    · split
      · exact putElems_congr rest _ fun p hp => h p (by simp [hp])
      · rfl
    · rfl

theorem lk_app_mono {hp hp' : Hp} (hh : Hp.le hp hp') : ∀ {u : List (Nat × VO)} {o : Nat} {v : VO}, lk (u ++ hp) o = some v → lk (u ++ hp') o = some v
  | [], _, _, h => hh _ _ h
  | (k, x) :: u, o, v, h => by
    rw [List.cons_append, lk_cons] at h ⊢
    split at h
    · rename_i e; rw [if_pos e]; exact h
    · rename_i e; rw [if_neg e]; exact lk_app_mono hh h
theorem frzU_mono {hp hp' : Hp} (hh : Hp.le hp hp') : ∀ {l : List Nat} {u u' : List (Nat × VO)}, frzU hp l u = some u' → frzU hp' l u = some u'
  | [], _, _, h => h
  | o :: l, u, u', h => by
    have h : (match lk (u ++ hp) o with
      | some (.grow s xs) => frzU hp l ((o, .froz s xs) :: u)
      | some (.froz _ _) => frzU hp l u
      | _ => none) = some u' := h
    show (match lk (u ++ hp') o with
      | some (.grow s xs) => frzU hp' l ((o, .froz s xs) :: u)
      | some (.froz _ _) => frzU hp' l u
      | _ => none) = some u'
    split at h
    · rename_i s xs ho
      rw [lk_app_mono hh ho]
      exact frzU_mono hh h
    · rename_i s xs ho
      rw [lk_app_mono hh ho]
      exact frzU_mono hh h
    · cases h
theorem doCall_mono {c : Ctx} {nx : Nat} {hp hp' : Hp} (hh : Hp.le hp hp') {f : Nat} {hs : List HV} {ef : Ef} (h : doCall c nx hp f hs = some ef) : doCall c nx hp' f hs = some ef := by
  unfold doCall at h ⊢
  simp only [argDL_eq] at h ⊢
  split at h
  · split at h
    · rename_i M hM
      have hmut : ∀ ef, mutCall M nx hp hs = some ef → mutCall M nx hp' hs = some ef := by
        intro ef h
        unfold mutCall at h ⊢
        split at h
        · rename_i o s' rest
          split at h
          · rename_i s2 xs ds hb ho hds
            simp only [hb, hds, hh _ _ ho]
            exact h
          · cases h
        · cases h
      exact hmut _ h
    · cases h
  · rename_i S hS
    split at h
    · cases h
    · rename_i ds hds
      rw [argDs_mono hh _ _ _ hds]
      dsimp only
      revert h
      cases ((S.res ds).flatRes || allIsDat hs) with
      | true => exact id
      | false =>
        cases shallowL hs with
        | false => exact id
        | true =>
          cases hu : frzU hp (ownIdsL hs) [] with
          | none => intro h; cases h
          | some u => intro h; simp only [frzU_mono hh hu]; exact h

theorem vop0_mono {c : Ctx} {nx : Nat} {ρ ρ' : Operand → HV} {hp hp' : Hp} {ty : Nat} {op : Op} {ef : Ef} (hρ : ∀ x ∈ op.operands, ρ x = ρ' x) (hh : Hp.le hp hp') (h : vop0 c nx ρ hp ty op = some ef) : vop0 c nx ρ' hp' ty op = some ef := by
  cases op with
  | move x =>
    have hx : ρ x = ρ' x := hρ x (by simp [Op.operands])
    simp only [vop0] at h ⊢
    cases x <;> simp only at h ⊢ <;> rw [← hx] <;> exact h
  | assign x =>
    have hx : ρ x = ρ' x := hρ x (by simp [Op.operands])
    simp only [vop0] at h ⊢
    cases x <;> simp only at h ⊢ <;> rw [← hx] <;> exact h
  | alloc t => simp only [vop0] at h ⊢; exact h
  | box t x =>
    have hx : ρ x = ρ' x := hρ x (by simp [Op.operands])
    simp only [vop0, hx] at h ⊢; exact h
  | build t ps =>
    simp only [vop0] at h ⊢
    have e : ∀ ss, putFields ρ ss (H0s ss) ps.toList = putFields ρ' ss (H0s ss) ps.toList := fun ss => putFields_congr _ _ fun p hp => hρ p.2 (by simp only [Op.operands]; simp; exact ⟨p.1, by simpa using hp⟩)
    have e2 : ∀ s xs, vop0.putElems ρ s xs ps.toList = vop0.putElems ρ' s xs ps.toList := fun s xs => putElems_congr _ _ fun p hp => hρ p.2 (by simp only [Op.operands]; simp; exact ⟨p.1, by simpa using hp⟩)
    simp only [e, e2] at h; exact h
  | buildSlice t n ps =>
    simp only [vop0] at h ⊢
    have hin : ∀ p ∈ ps.toList, ρ p.2 = ρ' p.2 := fun p hp => hρ p.2 (by simp only [Op.operands]; simp; exact ⟨p.1, by simpa using hp⟩)
    have e : ∀ s xs, vop0.putElems ρ s xs ps.toList = vop0.putElems ρ' s xs ps.toList := fun s xs => putElems_congr _ _ hin
    have e2 : vecArgs ρ ps.toList 0 = vecArgs ρ' ps.toList 0 := vecArgs_congr _ _ hin
    simp only [e, e2] at h; exact h
  | slice t x lo hi mx =>
    have hx : ρ x = ρ' x := hρ x (by simp [Op.operands])
    have hlo : ∀ n, bnd ρ lo n = bnd ρ' lo n := fun n => bnd_congr fun y hy => hρ y (by simp [Op.operands, hy])
    have hhi : ∀ n, bnd ρ hi n = bnd ρ' hi n := fun n => bnd_congr fun y hy => hρ y (by simp [Op.operands, hy])
    simp only [vop0, hx, hlo, hhi] at h ⊢
    split at h
    · split at h
      · split at h
        · exact h
        · split at h
          · rename_i ho; rw [hh _ _ ho]; exact h
          · rename_i ho; rw [hh _ _ ho]; exact h
          · cases h
        · cases h
      · rename_i m
        have hm : ρ m = ρ' m := hρ m (by simp [Op.operands])
        split at h
        · rename_i y
          have hy : ρ y = ρ' y := hρ y (by simp [Op.operands])
          rw [hy, hm] at h
          split at h
          · rename_i h1 h2 h3
            rw [h1, h2, argD_mono hh _ _ _ h3]
            exact h
          · cases h
        · cases h
    · cases h
  | makeMap t r =>
    simp only [vop0] at h ⊢
    split at h
    · exact h
    · rename_i y _ _ _
      have hy : ρ y = ρ' y := hρ y (by simp [Op.operands])
      rw [hy] at h; exact h
    · cases h
  | insert t m k v =>
    have hm : ρ m = ρ' m := hρ m (by simp [Op.operands])
    have hk : ρ k = ρ' k := hρ k (by simp [Op.operands])
    have hv : ρ v = ρ' v := hρ v (by simp [Op.operands])
    simp only [vop0, hm, hk, hv] at h ⊢
    split at h
    · split at h
      · rename_i hb ho; rw [hb, hh _ _ ho]; exact h
      · cases h
    · cases h
  | mapUpdate t m k v =>
    have hm : ρ m = ρ' m := hρ m (by simp [Op.operands])
    have hk : ρ k = ρ' k := hρ k (by simp [Op.operands])
    have hv : ρ v = ρ' v := hρ v (by simp [Op.operands])
    simp only [vop0, hm, hk, hv] at h ⊢
    split at h
    · split at h
      · rename_i hb ho; rw [hb, hh _ _ ho]; exact h
      · cases h
    · cases h
  | lookup t m k ok =>
    have hm : ρ m = ρ' m := hρ m (by simp [Op.operands])
    have hk : ρ k = ρ' k := hρ k (by simp [Op.operands])
    simp only [vop0, hm, hk] at h ⊢
    split at h
    · split at h
      · rename_i hb ho; rw [hb, hh _ _ ho]; exact h
      · cases h
    · cases h
  | range t m =>
    have hm : ρ m = ρ' m := hρ m (by simp [Op.operands])
    simp only [vop0, hm] at h ⊢
    split at h
    · split at h
      · rename_i ho; rw [hh _ _ ho]; exact h
      · cases h
    · cases h
  | entry x =>
    have hx : ρ x = ρ' x := hρ x (by simp [Op.operands])
    simp only [vop0, hx] at h ⊢
    split at h
    · split at h
      · rename_i ho
        split at h
        · rename_i hom hl
          rw [hh _ _ ho]
          simp only
          rw [hh _ _ hom, hl]
          exact h
        · cases h
      · cases h
    · cases h
  | load t x =>
    have hx : ρ x = ρ' x := hρ x (by simp [Op.operands])
    simp only [vop0, hx] at h ⊢
    split at h
    · rename_i o r p s hr
      split at h
      · split at h
        · split at h
          · rename_i ho; rw [hh _ _ ho]; exact h
          · rename_i ho; rw [hh _ _ ho]; exact h
          · rename_i ho; rw [hh _ _ ho]; exact h
          · cases h
        · cases h
      · cases h
    · exact h
    · cases h
  | store t x y =>
    have hx : ρ x = ρ' x := hρ x (by simp [Op.operands])
    have hy : ρ y = ρ' y := hρ y (by simp [Op.operands])
    simp only [vop0, hx, hy] at h ⊢
    split at h
    · split at h
      · split at h
        · split at h
          · rename_i ho; rw [hh _ _ ho]; exact h
          · rename_i ho; rw [hh _ _ ho]; exact h
          · cases h
        · cases h
      · cases h
    · cases h
  | binOp op t x y t' =>
    have hx : ρ x = ρ' x := hρ x (by simp [Op.operands])
    have hy : ρ y = ρ' y := hρ y (by simp [Op.operands])
    simp only [vop0, hx, hy] at h ⊢; exact h
  | unOp op t x =>
    have hx : ρ x = ρ' x := hρ x (by simp [Op.operands])
    simp only [vop0, hx] at h ⊢; exact h
  | convert t t' x =>
    have hx : ρ x = ρ' x := hρ x (by simp [Op.operands])
    simp only [vop0, hx] at h ⊢; exact h
  | makeFunc fn first caps =>
    cases fn with
    | func f =>
      have e : caps.toList.map ρ = caps.toList.map ρ' := List.map_congr_left fun x hx => hρ x (by simp [Op.operands]; exact .inr (by simpa using hx))
      simp only [vop0, e] at h ⊢; exact h
    | _ => simp [vop0] at h
  | fieldAddr t x i =>
    have hx : ρ x = ρ' x := hρ x (by simp [Op.operands])
    simp only [vop0, hx] at h ⊢; exact h
  | indexAddr t x y =>
    have hx : ρ x = ρ' x := hρ x (by simp [Op.operands])
    have hy : ρ y = ρ' y := hρ y (by simp [Op.operands])
    simp only [vop0, hx, hy] at h ⊢
    split at h
    · split at h
      · exact h
      · exact h
      · split at h
        · split at h
          · rename_i ho; rw [hh _ _ ho]; exact h
          · rename_i ho; rw [hh _ _ ho]; exact h
          · cases h
        · cases h
      · exact h
      · split at h
        · rename_i hm ho; rw [hm, hh _ _ ho]; exact h
        · cases h
      · cases h
    · cases h
  | field t x i =>
    have hx : ρ x = ρ' x := hρ x (by simp [Op.operands])
    simp only [vop0, hx] at h ⊢; exact h
  | index t x y =>
    have hx : ρ x = ρ' x := hρ x (by simp [Op.operands])
    have hy : ρ y = ρ' y := hρ y (by simp [Op.operands])
    simp only [vop0, hx, hy] at h ⊢; exact h
  | extract x i =>
    have hx : ρ x = ρ' x := hρ x (by simp [Op.operands])
    simp only [vop0, hx] at h ⊢; exact h
  | makeSlice t x y =>
    have hx : ρ x = ρ' x := hρ x (by simp [Op.operands])
    have hy : ρ y = ρ' y := hρ y (by simp [Op.operands])
    simp only [vop0, hx, hy] at h ⊢; exact h
  | nilCheck x =>
    have hx : ρ x = ρ' x := hρ x (by simp [Op.operands])
    simp only [vop0, hx] at h ⊢; exact h
  | call cl =>
    obtain ⟨callee, args, tys⟩ := cl
    have hargs : ∀ x ∈ args.toList, ρ x = ρ' x := fun x hx => hρ x (by simp only [Op.operands, Call.operands]; simp; exact .inr (by simpa using hx))
    cases callee with
    | builtin b =>
      cases b with
      | len =>
        simp only [vop0] at h ⊢
        split at h
        · rename_i x t ha ht
          rw [← hargs x (by rw [ha]; simp)]
          split at h
          · exact h
          · split at h
            · rename_i ho; rw [hh _ _ ho]; exact h
            · rename_i ho; rw [hh _ _ ho]; exact h
            · cases h
          · split at h
            · rename_i hm ho; rw [hm, hh _ _ ho]; exact h
            · cases h
          · split at h
            · rename_i hm ho; rw [hm, hh _ _ ho]; exact h
            · cases h
          · exact h
          · cases h
        · cases h
      | max =>
        simp only [vop0] at h ⊢
        split at h
        · rename_i x y ha
          rw [← hargs x (by rw [ha]; simp), ← hargs y (by rw [ha]; simp)]
          exact h
        · cases h
      | min =>
        simp only [vop0] at h ⊢
        split at h
        · rename_i x y ha
          rw [← hargs x (by rw [ha]; simp), ← hargs y (by rw [ha]; simp)]
          exact h
        · cases h
      | append =>
        simp only [vop0] at h ⊢
        split at h
        · rename_i x y t t' ha ht
          rw [← hargs x (by rw [ha]; simp), ← hargs y (by rw [ha]; simp)]
          split at h
          · rename_i s s' h1 h2
            split at h
            · rename_i e hb he
              rw [hb, argD_mono hh _ _ _ he]
              simp only
              split at h
              · split at h
                · rename_i hb1 ho
                  rw [hh _ _ ho, hb1]
                  exact h
                · cases h
              · exact h
              · cases h
            · cases h
          · cases h
        · cases h
      | _ => simp [vop0] at h
    | invoke r m => simp [vop0] at h
    | value f =>
      have hf : ρ f = ρ' f := hρ f (by simp [Op.operands, Call.operands])
      have e : args.toList.map ρ = args.toList.map ρ' := List.map_congr_left hargs
      simp only [vop0, fHVsO_eq, hf, e] at h ⊢
      split at h
      · exact doCall_mono hh h
      · cases h
  | _ => simp [vop0] at h
theorem vop_mono {c : Ctx} {nx : Nat} {ρ ρ' : Operand → HV} {hp hp' : Hp} {ty : Nat} {op : Op} {ef : Ef} (hρ : ∀ x ∈ op.operands, ρ x = ρ' x) (hh : Hp.le hp hp') (h : vop c nx ρ hp ty op = some ef) : vop c nx ρ' hp' ty op = some ef := by
  obtain ⟨ef0, h0, rfl⟩ := vop_some h
  exact vop_of (vop0_mono hρ hh h0)
end Go.Vm
