/- What the evaluator makes of one operation is what the model does: part 4. -/
import Derived.Test.YtjcfnooplhoheaaVmM
noncomputable section
namespace Go.Vm
open Go

section
variable {P : Program} {c : Ctx} {g : Ghost} {loc : Loc} {w0 : Base} {w : World} {hp : Hp} {nx : Nat}

theorem run_indexAt_vec {t n cap b : Nat} {e : TypeId} {z : Value} {k : IntKind} {i : Int} (hu : P.underlying t = some (.slice e)) (hz : RefLay P e z) (h0 : 0 ≤ i) (h1 : i < n) (w : World) :
    (Instr.indexAt t (.slice (some ⟨b, 0, none⟩) n cap) (.int k i)).run P w = .ok (.pointer (some ⟨b, i.toNat, none⟩)) w := by
  simp [Instr.indexAt, asIntOf, run_underlying hu, h0, h1, run_size hz.plain, addr_add]

theorem s_binOp (hC : CtxOK P c) {ρ : Operand → HV} {ρv : Operand → Value} (hρ : ∀ x, HRel g loc (ρ x) (ρv x)) (H : HeapRel w0 hp g loc w) {op : BinOp} {t t' : Nat} {x y : Operand} {ty : Nat} {ef : Ef}
    (h : vop0 c nx ρ hp ty (.binOp op t x y t') = some ef) (hpre : holds ef.pre) :
    ∃ v, (do eqGuard op t x y (ρv x) (ρv y); binOp op t (ρv x) (ρv y) : Sem Value).run P w = .ok v w ∧ OpPost w0 hp nx g loc ef v w := by
  simp only [vop0] at h
  have hx := hρ x
  have hy := hρ y
  split at h
  · rename_i k a k' b hrx hry
    rw [hrx] at hx; rw [hry] at hy
    obtain ⟨ex, hx1⟩ := hx.int
    obtain ⟨ey, _⟩ := hy.int
    split at h
    · rename_i hv p har
      simp only [Option.some.injEq] at h; subst h
      obtain ⟨v, h1, h2⟩ := arith_run (P := P) (g := g) (loc := loc) har hpre hx1 w
      rw [ex, ey]
      refine ⟨v, ?_, OpPost.pure H h2⟩
      rw [Sem.run_bind, run_eqGuard_other _ _ _ _ _ _ (by simp) (by simp), Result.andThen_ok, binOp_int_ty op t 0]
      exact h1
    · cases h
  · rename_i a b hrx hry
    rw [hrx] at hx; rw [hry] at hy
    have ex := hx.bool
    have ey := hy.bool
    split at h
    · rename_i hty
      have hl := (hC.tab _ _ hty).1
      simp only [Lay] at hl
      rw [ex, ey]
      have hq : (Op.equal t (.bool a.bool) (.bool b.bool)).run P w = .ok (a.bool == b.bool) w := run_equalIn_bool' w 9999 t _ _ hl.2
      split at h
      · simp only [Option.some.injEq] at h; subst h
        refine ⟨.bool (a.bool == b.bool), ?_, OpPost.pure H HRel.bool_mk⟩
        rw [Sem.run_bind, run_eqGuard_other _ _ _ _ _ _ (by simp) (by simp), Result.andThen_ok]
        simp only [binOp, Sem.run_bind, hq, Result.andThen_ok, Sem.run_pure]
      · simp only [Option.some.injEq] at h; subst h
        refine ⟨.bool (!(a.bool == b.bool)), ?_, OpPost.pure H HRel.bool_mk⟩
        rw [Sem.run_bind, run_eqGuard_other _ _ _ _ _ _ (by simp) (by simp), Result.andThen_ok]
        simp only [binOp, Sem.run_bind, hq, Result.andThen_ok, Sem.run_pure]
      · cases h
    · cases h
  · rename_i s a s' b _ _ hrx hry
    rw [hrx] at hx; rw [hry] at hy
    split at h
    · rename_i s2 hty
      split at h
      · rename_i hcond
        simp only [Bool.and_eq_true] at hcond
        obtain ⟨⟨⟨⟨ha, hb1⟩, hb2⟩, hfl⟩, hdep⟩ := hcond
        have := Sh.beq_eq hb1; subst this
        have := Sh.beq_eq hb2; subst this
        obtain ⟨us, u1, u2⟩ := HRel.dat_iff.1 hx
        obtain ⟨vs, v1, v2⟩ := HRel.dat_iff.1 hy
        have hl := (hC.tab _ _ hty).1
        have hq := equalIn_run (g := g) (d := 10000) hl hfl (by have := Nat.le_of_ble_eq_true hdep; omega) u1 v1 w
        have hguard : P.eqGuardType P.depth t = false := by
          cases s <;> simp [Sh.agg] at ha <;> simp only [Lay] at hl
          · exact hl.2.2.1
          · exact hl.2.2
        rw [ha] at u2 v2 hq
        rw [u2, v2]
        simp only [mkV] at hq ⊢
        split at h
        · simp only [Option.some.injEq] at h; subst h
          refine ⟨.bool (eqD s a b), ?_, OpPost.pure H HRel.bool_mk⟩
          rw [Sem.run_bind, run_eqGuard_agg w _ _ _ _ _ _ hguard, Result.andThen_ok, run_eql_struct, hq]
          rfl
        · simp only [Option.some.injEq] at h; subst h
          refine ⟨.bool (!eqD s a b), ?_, OpPost.pure H HRel.bool_mk⟩
          rw [Sem.run_bind, run_eqGuard_agg w _ _ _ _ _ _ hguard, Result.andThen_ok, run_neq_struct, hq]
          rfl
        · cases h
      · cases h
    · cases h
  · cases h

theorem s_unOp {ρ : Operand → HV} {ρv : Operand → Value} (hρ : ∀ x, HRel g loc (ρ x) (ρv x)) (H : HeapRel w0 hp g loc w) {op : UnOp} {t : Nat} {x : Operand} {ty : Nat} {ef : Ef}
    (h : vop0 c nx ρ hp ty (.unOp op t x) = some ef) : ∃ v, (Op.unary op (ρv x)).run P w = .ok v w ∧ OpPost w0 hp nx g loc ef v w := by
  simp only [vop0] at h
  have hx := hρ x
  split at h
  · rename_i d hrx
    rw [hrx] at hx
    simp only [Option.some.injEq] at h; subst h
    rw [hx.bool]
    exact ⟨_, by simp only [Op.unary, Sem.run_pure], OpPost.pure H HRel.bool_mk⟩
  · rename_i k d hrx
    rw [hrx] at hx
    simp only [Option.some.injEq] at h; subst h
    rw [hx.int.1]
    exact ⟨_, unary_sound.1, OpPost.pure H (HRel.int_mk (wrap_in _ _).1 (wrap_in _ _).2)⟩
  · rename_i k d hrx
    rw [hrx] at hx
    simp only [Option.some.injEq] at h; subst h
    rw [hx.int.1]
    exact ⟨_, unary_sound.2, OpPost.pure H (HRel.int_mk (wrap_in _ _).1 (wrap_in _ _).2)⟩
  · cases h

theorem s_convert (hC : CtxOK P c) {ρ : Operand → HV} {ρv : Operand → Value} (hρ : ∀ x, HRel g loc (ρ x) (ρv x)) (H : HeapRel w0 hp g loc w) {t t' : Nat} {x : Operand} {ty : Nat} {ef : Ef}
    (h : vop0 c nx ρ hp ty (.convert t t' x) = some ef) : ∃ v, (convert t t' (ρv x)).run P w = .ok v w ∧ OpPost w0 hp nx g loc ef v w := by
  simp only [vop0] at h
  have hx := hρ x
  split at h
  · rename_i k d k0 k' hrx hty0 hty
    rw [hrx] at hx
    simp only [Option.some.injEq] at h; subst h
    have hl := (hC.tab _ _ hty).1
    have hl0 := (hC.tab _ _ hty0).1
    simp only [Lay] at hl hl0
    have hds := hl0.2
    rw [hx.int.1]
    refine ⟨.int k' (k'.wrap d.int), ?_, OpPost.pure H (HRel.int_mk (wrap_in _ _).1 (wrap_in _ _).2)⟩
    simp [convert, run_underlying hds, run_underlying hl.2, Conv.intToInt]
  · cases h

theorem s_fieldAddr (hC : CtxOK P c) {ρ : Operand → HV} {ρv : Operand → Value} (hρ : ∀ x, HRel g loc (ρ x) (ρv x)) (H : HeapRel w0 hp g loc w) {t i : Nat} {x : Operand} {ty : Nat} {ef : Ef}
    (h : vop0 c nx ρ hp ty (.fieldAddr t x i) = some ef) : ∃ v, (Instr.fieldAt t (ρv x) i).run P w = .ok v w ∧ OpPost w0 hp nx g loc ef v w := by
  simp only [vop0] at h
  have hx := hρ x
  split at h
  · rename_i o r p s s' hrx hty
    rw [hrx] at hx
    split at h
    · rename_i hb
      have := Sh.beq_eq hb; subst this
      split at h
      · rename_i s1 o1 hst
        simp only [Option.some.injEq] at h; subst h
        obtain ⟨b, cap, len, off, h1, h2, h3, h4⟩ := hx.ptr
        obtain ⟨ss, rfl, hs1, rfl⟩ := step_fld hst
        rw [h4]
        exact ⟨_, run_fieldAt (hC.tab _ _ hty).1 hst w, OpPost.pure H (HRel.ptr_mk h1 (navs_snoc h2 hst) (inPath_snoc h2 h3 (by simp [Sh.inStep])))⟩
      · cases h
    · cases h
  · rename_i s d s' hrx hty
    rw [hrx] at hx
    split at h
    · rename_i hb
      have := Sh.beq_eq hb; subst this
      split at h
      · rename_i s1 o1 hst
        simp only [Option.some.injEq] at h; subst h
        obtain ⟨b, off, cs, T, fr, h1, h2, h3, h4⟩ := hx.gptr
        obtain ⟨ss, rfl, hs1, rfl⟩ := step_fld hst
        rw [h4]
        obtain ⟨k1, k2⟩ := Rel.get h3 hst (by simp [Sh.inStep])
        rw [chunk_chunk _ _ _ _ _ k2] at k1
        exact ⟨_, run_fieldAt (hC.tab _ _ hty).1 hst w, OpPost.pure H (HRel.gptr_mk h1 (by omega) k1)⟩
      · cases h
    · cases h
  · cases h

theorem s_indexAddr (hC : CtxOK P c) {ρ : Operand → HV} {ρv : Operand → Value} (hρ : ∀ x, HRel g loc (ρ x) (ρv x)) (H : HeapRel w0 hp g loc w) {t : Nat} {x ix : Operand} {ty : Nat} {ef : Ef}
    (h : vop0 c nx ρ hp ty (.indexAddr t x ix) = some ef) (hpre : holds ef.pre) : ∃ v, (Instr.indexAt t (ρv x) (ρv ix)).run P w = .ok v w ∧ OpPost w0 hp nx g loc ef v w := by
  simp only [vop0] at h
  have hx := hρ x
  have hi := hρ ix
  split at h
  · rename_i kk k hri
    rw [hri] at hi
    rw [hi.int.1]
    split at h
    · rename_i n s1 o r p s hty hrx
      rw [hrx] at hx
      split at h
      · rename_i hb
        have := Sh.beq_eq hb; subst this
        simp only [Option.some.injEq] at h; subst h
        simp only [holds] at hpre
        obtain ⟨b, cap, len, off, h1, h2, h3, h4⟩ := hx.ptr
        rw [h4]
        have hst : (Sh.arr n s1).step (.idx k.int.toNat) = some (s1, k.int.toNat * s1.size) := rfl
        exact ⟨_, run_indexAt_arr (hC.tab _ _ hty).1 hpre.1 hpre.2 w, OpPost.pure H (HRel.ptr_mk h1 (navs_snoc h2 hst) (inPath_snoc h2 h3 (by simp only [Sh.inStep]; omega)))⟩
      · cases h
    · rename_i n s1 s d hty hrx
      rw [hrx] at hx
      split at h
      · rename_i hb
        have := Sh.beq_eq hb; subst this
        simp only [Option.some.injEq] at h; subst h
        simp only [holds] at hpre
        obtain ⟨b, off, cs, T, fr, h1, h2, h3, h4⟩ := hx.gptr
        rw [h4]
        have hst : (Sh.arr n s1).step (.idx k.int.toNat) = some (s1, k.int.toNat * s1.size) := rfl
        obtain ⟨k1, k2⟩ := Rel.get h3 hst (by simp only [Sh.inStep]; omega)
        rw [chunk_chunk _ _ _ _ _ k2] at k1
        exact ⟨_, run_indexAt_arr (hC.tab _ _ hty).1 hpre.1 hpre.2 w, OpPost.pure H (HRel.gptr_mk h1 (by omega) k1)⟩
      · cases h
    · rename_i s1 o s hty hrx
      rw [hrx] at hx
      split at h
      · rename_i hb
        have := Sh.beq_eq hb; subst this
        split at h
        · rename_i s0 xs ho
          split at h
          · rename_i hb2
            have := Sh.beq_eq hb2; subst this
            simp only [Option.some.injEq] at h; subst h
            simp only [holds] at hpre
            obtain ⟨us, h1, h2⟩ := hx
            simp only [HC] at h1
            rcases H.obj o _ ho with ⟨k1, rfl⟩ | ⟨b, cap, T, cs, k1, k2, k3, k4, k5⟩
            · simp at hpre; omega
            · rcases h1 with ⟨e1, _⟩ | ⟨b', cap', len', e1, rfl⟩
              · rw [k1] at e1; cases e1
              · rw [k1] at e1
                simp only [Option.some.injEq, Place.at.injEq] at e1
                obtain ⟨rfl, rfl, rfl, _⟩ := e1
                rw [h2]
                simp only [HV.agg, mkV, List.headD_cons]
                have := run_indexAt_slice (P := P) (hC.tab _ _ hty).1 (b := b) (off := 0) (cap := cap) (n := xs.length) (k := kk) hpre.1 hpre.2 w
                refine ⟨_, this, OpPost.pure H (HRel.ptr_mk k1 ?_ ?_)⟩
                · simp [Sh.navs, Sh.step]
                · simp only [Sh.inPath, Sh.inStep]
                  exact ⟨by omega, fun _ _ _ => trivial⟩
          · cases h
        · rename_i s0 xs ho
          split at h
          · rename_i hb2
            have := Sh.beq_eq hb2; subst this
            simp only [Option.some.injEq] at h; subst h
            simp only [holds] at hpre
            obtain ⟨us, h1, h2⟩ := HRel.dat_iff.1 (froz_hrel H ho hx)
            simp only [Rel, D.list] at h1
            obtain ⟨a, cap, rfl, h1⟩ := h1
            cases a with
            | none => simp only at h1; rw [h1.1] at hpre; simp at hpre; omega
            | some a =>
              obtain ⟨h4, h1⟩ := h1
              replace h4 : xs.length ≤ cap := by omega
              obtain ⟨h3, cs, T, fr, h5, h6, h7⟩ := h1 (by omega)
              obtain ⟨b, off, spot⟩ := a
              simp only at h3 h5 h6 h7
              subst h3
              rw [h2]
              simp only [Sh.agg, mkV, List.headD_cons]
              have hlt : k.int.toNat < xs.length := by omega
              have := run_indexAt_slice (P := P) (hC.tab _ _ hty).1 (b := b) (off := off) (cap := cap) (n := xs.length) (k := kk) hpre.1 hpre.2 w
              refine ⟨_, this, OpPost.pure H (HRel.gptr_mk h5 ?_ (h7 _ hlt))⟩
              have : k.int.toNat * s0.size + s0.size ≤ cap * s0.size := by
                calc k.int.toNat * s0.size + s0.size = (k.int.toNat + 1) * s0.size := by rw [Nat.add_mul, Nat.one_mul]
                  _ ≤ _ := Nat.mul_le_mul_right _ (by omega)
              omega
          · cases h
        · cases h
      · cases h
    · rename_i s1 s d hty hrx
      rw [hrx] at hx
      split at h
      · rename_i hb
        have := Sh.beq_eq hb; subst this
        simp only [Option.some.injEq] at h; subst h
        simp only [holds] at hpre
        obtain ⟨us, h1, h2⟩ := HRel.dat_iff.1 hx
        simp only [Rel] at h1
        obtain ⟨a, cap, rfl, h1⟩ := h1
        cases a with
        | none => simp only at h1; rw [h1.1] at hpre; simp at hpre; omega
        | some a =>
          obtain ⟨h4, h1⟩ := h1
          replace h4 : d.list.length ≤ cap := by omega
          obtain ⟨h3, cs, T, fr, h5, h6, h7⟩ := h1 (by omega)
          obtain ⟨b, off, spot⟩ := a
          simp only at h3 h5 h6 h7
          subst h3
          rw [h2]
          simp only [Sh.agg, mkV, List.headD_cons]
          have hlt : k.int.toNat < d.list.length := by omega
          have := run_indexAt_slice (P := P) (hC.tab _ _ hty).1 (b := b) (off := off) (cap := cap) (n := d.list.length) (k := kk) hpre.1 hpre.2 w
          refine ⟨_, this, OpPost.pure H (HRel.gptr_mk h5 ?_ (h7 _ hlt))⟩
          have : k.int.toNat * s1.size + s1.size ≤ cap * s1.size := by
            calc k.int.toNat * s1.size + s1.size = (k.int.toNat + 1) * s1.size := by rw [Nat.add_mul, Nat.one_mul]
              _ ≤ _ := Nat.mul_le_mul_right _ (by omega)
          omega
      · cases h
    · rename_i o hty hrx
      rw [hrx] at hx
      split at h
      · rename_i fs hmt ho
        simp only [Option.some.injEq] at h; subst h
        simp only [holds] at hpre
        obtain ⟨e, z, hu, hz⟩ := hC.maps _ _ hmt
        obtain ⟨us, h1, h2⟩ := hx
        simp only [HC] at h1
        obtain ⟨b, T, vs, k1, k2, k3⟩ := H.obj o _ ho
        rcases h1 with ⟨e1, _⟩ | ⟨b', cap', len', e1, rfl⟩
        · rw [k1] at e1; cases e1
        · rw [k1] at e1
          simp only [Option.some.injEq, Place.at.injEq] at e1
          obtain ⟨rfl, rfl, rfl, _⟩ := e1
          rw [h2]
          simp only [HV.agg, mkV, List.headD_cons]
          have := run_indexAt_vec (P := P) hu hz (b := b) (cap := fs.length) (n := fs.length) (k := kk) hpre.1 hpre.2 w
          refine ⟨_, this, OpPost.pure H (HRel.ptr_mk k1 ?_ ?_)⟩
          · simp [Sh.navs, Sh.step, Sh.size]
          · simp only [Sh.inPath, Sh.inStep]
            exact ⟨by omega, fun _ _ _ => trivial⟩
      · cases h
    · cases h
  · cases h

theorem s_field (hC : CtxOK P c) {ρ : Operand → HV} {ρv : Operand → Value} (hρ : ∀ x, HRel g loc (ρ x) (ρv x)) (H : HeapRel w0 hp g loc w) {t i : Nat} {x : Operand} {ty : Nat} {ef : Ef}
    (h : vop0 c nx ρ hp ty (.field t x i) = some ef) : ∃ v, (Instr.field t (ρv x) i).run P w = .ok v w ∧ OpPost w0 hp nx g loc ef v w := by
  simp only [vop0] at h
  have hx := hρ x
  split at h
  · rename_i ss d s' hrx hty
    rw [hrx] at hx
    split at h
    · rename_i hb
      have := Sh.beq_eq hb; subst this
      split at h
      · rename_i s1 hs1
        simp only [Option.some.injEq] at h; subst h
        obtain ⟨us, h1, h2⟩ := HRel.dat_iff.1 hx
        have hl := (hC.tab _ _ hty).1
        simp only [Lay] at hl
        obtain ⟨_, ⟨fs, hu, hls⟩, _⟩ := hl
        obtain ⟨f, hf, hoff, hpos, hlf⟩ := lays_get P hls hs1
        have hf' : fs[i]? = some f := by simpa using hf
        simp only [Rel] at h1
        obtain ⟨k1, k2⟩ := Rels.get i h1 hs1
        rw [Nat.zero_add] at k1 hoff
        have hp := run_part hlf.plain Sh.size_one us.toArray (Sh.sizes (ss.take i)) (by simpa using k2) w
        rw [h2]
        refine ⟨_, ?_, OpPost.pure H (HRel.dat_iff.2 ⟨_, k1, rfl⟩)⟩
        simp only [Instr.field, Sem.run_bind, run_underlying hu, Result.andThen_ok, hf', Sh.agg, mkV, asAgg, Sem.run_pure, hoff]
        exact hp
      · cases h
    · cases h
  · rename_i ss fs0 s' hrx hty
    rw [hrx] at hx
    split at h
    · rename_i hb
      have := Sh.beq_eq hb; subst this
      split at h
      · rename_i f0 s1 hf0 hs1
        split at h
        · rename_i hfit
          simp only [Option.some.injEq] at h; subst h
          obtain ⟨us, h1, h2⟩ := hx
          have hl := (hC.tab _ _ hty).1
          simp only [Lay] at hl
          obtain ⟨_, ⟨fs, hu, hls⟩, _⟩ := hl
          obtain ⟨f, hf, hoff, hpos, hlf⟩ := lays_get P hls hs1
          have hf' : fs[i]? = some f := by simpa using hf
          simp only [HC] at h1
          obtain ⟨k1, k2⟩ := HCs.get i h1 hs1 hf0
          rw [Nat.zero_add] at hoff
          have hp := run_part hlf.plain Sh.size_one us.toArray (Sh.sizes (ss.take i)) (by simpa using k2) w
          rw [h2]
          refine ⟨_, ?_, OpPost.pure H (HRel.of_hc hfit k1)⟩
          simp only [Instr.field, Sem.run_bind, run_underlying hu, Result.andThen_ok, hf', HV.agg, mkV, asAgg, Sem.run_pure, hoff]
          exact hp
        · cases h
      · cases h
    · cases h
  · cases h

theorem s_index (hC : CtxOK P c) {ρ : Operand → HV} {ρv : Operand → Value} (hρ : ∀ x, HRel g loc (ρ x) (ρv x)) (H : HeapRel w0 hp g loc w) {t : Nat} {x ix : Operand} {ty : Nat} {ef : Ef}
    (h : vop0 c nx ρ hp ty (.index t x ix) = some ef) (hpre : holds ef.pre) : ∃ v, (Instr.index t (ρv x) (ρv ix)).run P w = .ok v w ∧ OpPost w0 hp nx g loc ef v w := by
  simp only [vop0] at h
  have hx := hρ x
  have hi := hρ ix
  split at h
  · rename_i n s d kk k s' hrx hri hty
    rw [hrx] at hx; rw [hri] at hi
    rw [hi.int.1]
    split at h
    · rename_i hb
      have := Sh.beq_eq hb; subst this
      simp only [Option.some.injEq] at h; subst h
      simp only [holds] at hpre
      obtain ⟨us, h1, h2⟩ := HRel.dat_iff.1 hx
      have hl := (hC.tab _ _ hty).1
      simp only [Lay] at hl
      obtain ⟨_, ⟨e, hu, hle⟩, _⟩ := hl
      have hst : (Sh.arr n s).step (.idx k.int.toNat) = some (s, k.int.toNat * s.size) := rfl
      obtain ⟨k1, k2⟩ := Rel.get h1 hst (by simp only [Sh.inStep]; omega)
      have hul := h1.length
      have hp := run_part hle.plain Sh.size_one us.toArray (k.int.toNat * s.size) (by simp [hul]; exact k2) w
      rw [h2]
      refine ⟨_, ?_, OpPost.pure H (HRel.dat_iff.2 ⟨_, k1, rfl⟩)⟩
      simp only [Instr.index, asIntOf, Sem.run_bind, Sem.run_pure, Result.andThen_ok, run_underlying hu, Sh.agg, mkV]
      rw [if_pos hpre]
      simp only [Sem.run_bind, run_size hle.plain, Result.andThen_ok]
      exact hp
    · cases h
  · rename_i d kk k hrx hri hty
    rw [hrx] at hx; rw [hri] at hi
    rw [hi.int.1]
    simp only [Option.some.injEq] at h; subst h
    simp only [holds] at hpre
    obtain ⟨us, h1, h2⟩ := HRel.dat_iff.1 hx
    simp only [Rel] at h1
    subst h1
    have hl := (hC.tab _ _ hty).1
    simp only [Lay] at hl
    have hb : k.int.toNat < d.str.size := by omega
    have hget : d.str[k.int.toNat]? = some d.str[k.int.toNat] := by
      simp only [getElem?_pos, hb]
    rw [h2]
    refine ⟨.int .u8 (d.str[k.int.toNat].toNat : Int), ?_, OpPost.pure H ?_⟩
    · simp only [Instr.index, asIntOf, Sem.run_bind, Sem.run_pure, Result.andThen_ok, run_underlying hl.2, Sh.agg, mkV, List.headD_cons]
      rw [if_pos hpre.1, hget]
      rfl
    · have e : strAt d.str k.int = (d.str[k.int.toNat].toNat : Int) := by
        unfold strAt; rw [hget]
      have hlt := d.str[k.int.toNat].toNat_lt
      rw [e]
      exact HRel.int_mk (by show (0 : Int) ≤ _; omega) (by show _ ≤ (255 : Int); omega)
  · cases h

theorem s_extract {ρ : Operand → HV} {ρv : Operand → Value} (hρ : ∀ x, HRel g loc (ρ x) (ρv x)) (H : HeapRel w0 hp g loc w) {i : Nat} {x : Operand} {ty : Nat} {ef : Ef}
    (h : vop0 c nx ρ hp ty (.extract x i) = some ef) : ∃ v, (Instr.extract (ρv x) i).run P w = .ok v w ∧ OpPost w0 hp nx g loc ef v w := by
  simp only [vop0] at h
  have hx := hρ x
  split at h
  · rename_i vs hrx
    rw [hrx] at hx
    split at h
    · rename_i h0 hv0
      simp only [Option.some.injEq] at h; subst h
      obtain ⟨us, h1, h2⟩ := hx
      obtain ⟨v, k1, k2⟩ := HVs_get h1 hv0
      rw [h2]
      refine ⟨v, ?_, OpPost.pure H k2⟩
      have : us.toArray[i]? = some v := by simpa using k1
      simp only [Instr.extract, this, Sem.run_pure]
    · cases h
  · cases h
end
end Go.Vm
