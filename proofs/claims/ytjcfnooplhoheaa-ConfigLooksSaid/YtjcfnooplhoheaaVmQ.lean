/- The evaluator's operations are the model's: the theorem. -/
import Derived.Test.YtjcfnooplhoheaaVmPa
noncomputable section
namespace Go.Vm
open Go

section
variable {P : Program} {c : Ctx} {g : Ghost} {loc : Loc} {w0 : Base} {w : World} {hp : Hp} {nx : Nat}

theorem opwp_value {K : Value → World → Prop} {m : Sem Value} (h : ∃ v w', m.run P w = .ok v w' ∧ K v w') : OpWp P K ((do pure (.value (← m)) : Sem Next).run P w) := by
  obtain ⟨v, w', h1, h2⟩ := h
  simp only [Sem.run_bind, h1, Result.andThen_ok, Sem.run_pure, OpWp]
  exact h2
theorem opwp_unit {K : Value → World → Prop} {m : Sem Unit} (h : ∃ w', m.run P w = .ok () w' ∧ K undef w') : OpWp P K ((do m; pure .skip : Sem Next).run P w) := by
  obtain ⟨w', h1, h2⟩ := h
  simp only [Sem.run_bind, h1, Result.andThen_ok, Sem.run_pure, OpWp]
  exact h2
theorem val_of {K : Value → World → Prop} {m : Sem Value} (h : ∃ v, m.run P w = .ok v w ∧ K v w) : ∃ v w', m.run P w = .ok v w' ∧ K v w' := by
  obtain ⟨v, h1, h2⟩ := h
  exact ⟨v, w, h1, h2⟩

theorem s_move {ρ : Operand → HV} {ρv : Operand → Value} (hρ : ∀ x, HRel g loc (ρ x) (ρv x)) (hk : ∀ v, ρv (.const v) = v) (H : HeapRel w0 hp g loc w) (hn : loc nx = none) {x : Operand} {ty : Nat} {ef : Ef}
    (h : vop0 c nx ρ hp ty (.move x) = some ef) : OpPost w0 hp nx g loc ef (ρv x) w := by
  simp only [vop0] at h
  split at h
  · rename_i v
    split at h
    · rename_i hnl
      split at h
      · rename_i s hty
        simp only [Option.some.injEq] at h; subst h
        refine ⟨g, loc.upd nx .nil, Ghost.le_refl g, Loc.le_upd hn, fun o ho => Loc.upd_other (by simp only at ho; omega), ?_, ?_⟩
        · exact H.new hn (ExtAll.refl w) .nil (.grow s []) (by intro b hb; simp [Place.blk] at hb) (.inl ⟨Loc.upd_same, rfl⟩)
        · rw [hk, isNil_eq hnl]
          show ∃ us, HC g _ (.own nx s) us ∧ _ = mkV _ us
          exact ⟨[.slice none 0 0], by simp only [HC]; exact .inl ⟨Loc.upd_same, none, rfl⟩, rfl⟩
      · cases h
    · simp only [Option.some.injEq] at h; subst h
      exact OpPost.pure H (hρ _)
  · simp only [Option.some.injEq] at h; subst h
    exact OpPost.pure H (hρ _)

theorem fn_mk {f : Nat} {caps : List HV} {cs : List Value} (h : HVs g loc caps cs) : HRel g loc (.fn f caps) (.func (.func f) #[] cs.toArray) := by
  show ∃ us, HC g loc (.fn f caps) us ∧ _ = mkV _ us
  exact ⟨[.func (.func f) #[] cs.toArray], by simp only [HC]; exact ⟨cs, h, rfl⟩, rfl⟩

theorem HVs_length : ∀ {hs : List HV} {vs : List Value}, HVs g loc hs vs → hs.length = vs.length
  | [], [], _ => rfl
  | h :: hs, v :: vs, k => by simp only [HVs] at k; simp [HVs_length k.2]
  | [], _ :: _, h => by simp [HVs] at h
  | _ :: _, [], h => by simp [HVs] at h

/-- **One operation.** -/
theorem vop0_sound (hC : CtxOK P c) {ρ : Operand → HV} {ρv : Operand → Value} (hρ : ∀ x, HRel g loc (ρ x) (ρv x)) (hk : ∀ v, ρv (.const v) = v) (H : HeapRel w0 hp g loc w) (hn : loc nx = none) (hn1 : loc (nx + 1) = none) {o : Oper} {ef : Ef}
    (h : vop0 c nx ρ hp o.type o.op = some ef) (hpre : holds ef.pre) : OpWp P (OpPost w0 hp nx g loc ef) ((execOp ρv o).run P w) := by
  obtain ⟨dst, op, ty, pos, after, guard⟩ := o
  simp only at h
  cases op with
  | move x => exact s_move hρ hk H hn h
  | assign x => exact s_move hρ hk H hn h
  | alloc t => exact opwp_value (s_alloc hC H hn hn1 h)
  | box t x => exact opwp_value (s_box hρ H hn h)
  | build t ps => exact opwp_value (val_of (s_build hC hρ H h))
  | buildSlice t n ps => exact opwp_value (s_buildSlice hC hρ H hn h)
  | load t x => exact opwp_value (val_of (s_load hC hρ H h))
  | store t a x => exact opwp_unit (s_store hC hρ H h)
  | binOp op t x y t' => exact opwp_value (val_of (s_binOp hC hρ H h hpre))
  | unOp op t x => exact opwp_value (val_of (s_unOp hρ H h))
  | convert t t' x => exact opwp_value (val_of (s_convert hC hρ H h))
  | fieldAddr t x i => exact opwp_value (val_of (s_fieldAddr hC hρ H h))
  | indexAddr t x i => exact opwp_value (val_of (s_indexAddr hC hρ H h hpre))
  | field t x i => exact opwp_value (val_of (s_field hC hρ H h))
  | index t x i => exact opwp_value (val_of (s_index hC hρ H h hpre))
  | extract x i => exact opwp_value (val_of (s_extract hρ H h))
  | makeSlice t l k => exact opwp_value (s_makeSlice hC hρ H hn h hpre)
  | slice t x lo hi mx => exact opwp_value (s_slice hC hρ H hn h hpre)
  | makeMap t r => exact opwp_value (s_makeMap hC hρ H hn h)
  | insert t m k x => exact opwp_unit (s_mapUpdate hC hρ H (ty := ty) h)
  | mapUpdate t m k x => exact opwp_unit (s_mapUpdate hC hρ H h)
  | lookup t m k ok => exact opwp_value (val_of (s_lookup hC hρ H h))
  | range t m => exact opwp_value (s_range hC hρ H hn h)
  | entry x => exact opwp_value (val_of (s_entry hρ H h hpre))
  | makeFunc fn first caps =>
    cases fn with
    | func f =>
      simp only [vop0] at h
      split at h
      · rename_i hf hs
        simp only [Option.some.injEq] at h; subst h
        have hfe : first = #[] := by rw [← Array.toList_inj]; exact hf
        subst hfe
        refine opwp_value ⟨.func (.func f) #[] (caps.toList.map ρv).toArray, w, by simp [Instr.makeFunc]; rw [← Array.toList_inj]; simp, OpPost.pure H ?_⟩
        exact fn_mk (HVs_map (g := g) (loc := loc) hρ caps.toList hs)
      · cases h
    | _ => simp [vop0] at h
  | nilCheck x =>
    simp only [vop0] at h
    have hx := hρ x
    split at h
    · rename_i o r p s hrx
      rw [hrx] at hx
      simp only [Option.some.injEq] at h; subst h
      have hx' := hx
      obtain ⟨b, cap, len, off, _, _, _, h4⟩ := hx.ptr
      simp only [execOp]
      rw [h4] at hx' ⊢
      exact OpPost.pure H hx'
    · rename_i s d hrx
      rw [hrx] at hx
      simp only [Option.some.injEq] at h; subst h
      have hx' := hx
      obtain ⟨b, off, cs, T, fr, _, _, _, h4⟩ := hx.gptr
      simp only [execOp]
      rw [h4] at hx' ⊢
      exact OpPost.pure H hx'
    · rename_i f cs hrx
      rw [hrx] at hx
      simp only [Option.some.injEq] at h; subst h
      have hx' := hx
      obtain ⟨us, h1, h2⟩ := hx
      simp only [HC] at h1
      obtain ⟨vs, _, rfl⟩ := h1
      simp only [HV.agg, mkV, List.headD_cons] at h2
      simp only [execOp]
      rw [h2] at hx' ⊢
      exact OpPost.pure H hx'
    · cases h
  | call cl =>
    obtain ⟨callee, args, tys⟩ := cl
    cases callee with
    | builtin b =>
      cases b with
      | len => exact opwp_value (val_of (s_len hC hρ H h hpre))
      | max => exact opwp_value (val_of (s_max hρ H h))
      | min => exact opwp_value (val_of (s_min hρ H h))
      | append => exact opwp_value (s_append hC hρ H hn hn1 h hpre)
      | _ => simp [vop0] at h
    | invoke r m => simp [vop0] at h
    | value f =>
      simp only [vop0] at h
      have hf := hρ f
      split at h
      · rename_i n caps hrf
        rw [fHVsO_eq] at h
        rw [hrf] at hf
        obtain ⟨us, h1, h2⟩ := hf
        simp only [HC] at h1
        obtain ⟨cs, h3, rfl⟩ := h1
        simp only [HV.agg, mkV, List.headD_cons] at h2
        have hrun : ((execOp ρv ⟨dst, .call ⟨.value f, args, tys⟩, ty, pos, after, guard⟩).run P w) = (callFunc n ((args.toList.map ρv) ++ cs).toArray).run P w := by
          simp only [execOp, resolve, h2, Deferred.ofValue, Sem.run_bind, Sem.run_pure, Result.andThen_ok, invoke]
          congr 2
          rw [← Array.toList_inj]; simp
        rw [hrun]
        refine doCall_sound hC H h hpre ?_ ?_
        · intro i hh v h4 h5
          by_cases hi : i < args.toList.length
          · rw [List.getElem?_append_left (by simpa using hi), List.getElem?_map] at h4 h5
            cases hx : args.toList[i]? with
            | none => rw [hx] at h4; simp at h4
            | some x =>
              rw [hx] at h4 h5
              simp only [Option.map_some, Option.some.injEq] at h4 h5
              subst h4; subst h5; exact hρ x
          · rw [List.getElem?_append_right (by simpa using hi)] at h4 h5
            simp only [List.length_map] at h4 h5
            obtain ⟨v', h6, h7⟩ := HVs_get h3 h4
            rw [h6] at h5
            simp only [Option.some.injEq] at h5; subst h5; exact h7
        · simp [HVs_length h3]
      · cases h
  | _ => simp [vop0] at h

/-- Numbers and truth values in one form. -/
def norm : HV → HV
  | .dat (.int k) d => .dat (.int k) (.I d.int)
  | .dat .bool d => .dat .bool (.B d.bool)
  | h => h
theorem norm_rel {h : HV} {v : Value} (hr : HRel g loc h v) : HRel g loc (norm h) v := by
  unfold norm
  split
  · obtain ⟨h1, h2, h3⟩ := hr.int
    rw [h1]; exact HRel.int_mk h2 h3
  · rw [hr.bool]; exact HRel.bool_mk
  · exact hr
/-- What the evaluator makes of one operation. -/
def vop (c : Ctx) (nx : Nat) (ρ : Operand → HV) (hp : Hp) (ty : Nat) (op : Op) : Option Ef := match vop0 c nx ρ hp ty op with
  | some ⟨hv, upd, nx', pre⟩ => some ⟨norm hv, upd, nx', pre⟩
  | none => none
theorem vop_some {c : Ctx} {nx : Nat} {ρ : Operand → HV} {hp : Hp} {ty : Nat} {op : Op} {ef : Ef} (h : vop c nx ρ hp ty op = some ef) : ∃ ef0, vop0 c nx ρ hp ty op = some ef0 ∧ ef = ⟨norm ef0.hv, ef0.upd, ef0.nx, ef0.pre⟩ := by
  unfold vop at h
  split at h
  · rename_i hv upd nx' pre h0
    simp only [Option.some.injEq] at h
    exact ⟨_, h0, h.symm⟩
  · cases h
theorem vop_of {c : Ctx} {nx : Nat} {ρ : Operand → HV} {hp : Hp} {ty : Nat} {op : Op} {ef0 : Ef} (h : vop0 c nx ρ hp ty op = some ef0) : vop c nx ρ hp ty op = some ⟨norm ef0.hv, ef0.upd, ef0.nx, ef0.pre⟩ := by
  unfold vop; rw [h]
theorem vop_sound (hC : CtxOK P c) {ρ : Operand → HV} {ρv : Operand → Value} (hρ : ∀ x, HRel g loc (ρ x) (ρv x)) (hk : ∀ v, ρv (.const v) = v) (H : HeapRel w0 hp g loc w) (hn : loc nx = none) (hn1 : loc (nx + 1) = none) {o : Oper} {ef : Ef}
    (h : vop c nx ρ hp o.type o.op = some ef) (hpre : holds ef.pre) : OpWp P (OpPost w0 hp nx g loc ef) ((execOp ρv o).run P w) := by
  obtain ⟨ef0, h0, rfl⟩ := vop_some h
  refine (vop0_sound hC hρ hk H hn hn1 h0 hpre).mono ?_
  rintro v w' ⟨g', loc', h1, h2, h3, h4, h5⟩
  exact ⟨g', loc', h1, h2, h3, h4, norm_rel h5⟩
theorem s_loadV (hC : CtxOK P c) {ρ : Operand → HV} {ρv : Operand → Value} (hρ : ∀ x, HRel g loc (ρ x) (ρv x)) (H : HeapRel w0 hp g loc w) {t : Nat} {x : Operand} {ty : Nat} {ef : Ef}
    (h : vop c nx ρ hp ty (.load t x) = some ef) : ∃ v, (Instr.loadAt t (ρv x)).run P w = .ok v w ∧ ef.upd = [] ∧ ef.nx = nx ∧ HRel g loc ef.hv v := by
  obtain ⟨ef0, h0, rfl⟩ := vop_some h
  obtain ⟨v, h1, h2, h3, h4⟩ := s_load0 hC hρ H h0
  exact ⟨v, h1, h2, h3, norm_rel h4⟩
end
end Go.Vm
