/- What the evaluator makes of one operation is what the model does: part 3, the theorem for plain operations. -/
import Derived.Test.YtjcfnooplhoheaaVmL
noncomputable section
namespace Go.Vm
open Go

section
variable {P : Program} {c : Ctx} {g : Ghost} {loc : Loc} {w0 : Base} {w : World} {hp : Hp} {nx : Nat}

def OpPost (w0 : Base) (hp : Hp) (nx : Nat) (g : Ghost) (loc : Loc) (ef : Ef) (v : Value) (w' : World) : Prop :=
  ∃ g' loc', g.le g' ∧ loc.le loc' ∧ (∀ o, o < nx ∨ ef.nx ≤ o → loc' o = loc o) ∧ HeapRel w0 (ef.upd ++ hp) g' loc' w' ∧ HRel g' loc' ef.hv v

theorem OpPost.pure (H : HeapRel w0 hp g loc w) {hv : HV} {pre : Option Prop} {v : Value} (h : HRel g loc hv v) : OpPost w0 hp nx g loc ⟨hv, [], nx, pre⟩ v w :=
  ⟨g, loc, Ghost.le_refl g, Loc.le_refl loc, fun _ _ => rfl, H, h⟩

theorem sizes_ref : ∀ n : Nat, Sh.sizes (List.replicate n .ref) = n
  | 0 => rfl
  | n + 1 => by simp only [List.replicate_succ, Sh.sizes, Sh.size, sizes_ref n]; omega

theorem s_load0 (hC : CtxOK P c) {ρ : Operand → HV} {ρv : Operand → Value} (hρ : ∀ x, HRel g loc (ρ x) (ρv x)) (H : HeapRel w0 hp g loc w) {t : Nat} {x : Operand} {ty : Nat} {ef : Ef}
    (h : vop0 c nx ρ hp ty (.load t x) = some ef) : ∃ v, (Instr.loadAt t (ρv x)).run P w = .ok v w ∧ ef.upd = [] ∧ ef.nx = nx ∧ HRel g loc ef.hv v := by
  simp only [vop0] at h
  have hx := hρ x
  split at h
  · rename_i o r p s hrx
    rw [hrx] at hx
    obtain ⟨b, cap, len, off, h1, h2, h3, h4⟩ := hx.ptr
    rw [h4]
    split at h
    · rename_i s' z hty
      have hpl := tyOf_plain hC hty
      split at h
      · rename_i hbeq
        have := Sh.beq_eq hbeq; subst this
        split at h
        · rename_i sb vb ho
          obtain ⟨b', cap', len', T, vs, k1, k2, k3, k4, k5⟩ := H.obj o _ ho
          rw [h1] at k1
          simp only [Option.some.injEq, Place.at.injEq] at k1
          obtain ⟨rfl, rfl, rfl, rfl⟩ := k1
          split at h
          · cases h
          · rename_i hne
            simp only [Option.some.injEq] at h; subst h
            obtain ⟨a1, a2, a3⟩ := HC.getP k5 k4 h2 h3 hne
            have hrun := run_loadVar_chunk (P := P) hpl Sh.size_one k2 (off := off) (by omega)
            exact ⟨_, by simp only [Instr.loadAt, Instr.sureAddr, Sem.run_bind, Sem.run_pure, Result.andThen_ok]; exact hrun, rfl, rfl, HRel.of_hc a2 a1⟩
        · rename_i s0 xs ho
          rcases H.obj o _ ho with ⟨k1, _⟩ | ⟨b', cap', T, cs, k1, k2, k3, k4, k5⟩
          · rw [h1] at k1; cases k1
          · rw [h1] at k1
            simp only [Option.some.injEq, Place.at.injEq] at k1
            obtain ⟨rfl, rfl, rfl, rfl⟩ := k1
            have hle : xs.length * s0.size ≤ cs.size := by rw [k3]; exact Nat.mul_le_mul_right _ (by omega)
            have hrel : Rel g (.arr xs.length s0) (.L xs) (chunk cs.toList 0 (xs.length * s0.size)) := by
              simp only [Rel]
              refine ⟨chunk_length _ _ _ (by simpa using hle), fun j hj => ?_⟩
              have hj2 : j * s0.size + s0.size ≤ xs.length * s0.size := by
                calc j * s0.size + s0.size = (j + 1) * s0.size := by rw [Nat.add_mul, Nat.one_mul]
                  _ ≤ _ := Nat.mul_le_mul_right _ hj
              rw [chunk_chunk _ _ _ _ _ hj2, Nat.zero_add]
              simpa [D.nth] using k5 j hj
            split at h
            · cases h
            · rename_i hne
              simp only [Option.some.injEq] at h; subst h
              obtain ⟨a1, a2, a3⟩ := HC.getP (g := g) (loc := loc) (h := .dat (.arr xs.length s0) (.L xs)) (by simp only [HC]; exact hrel) (by simp [fits, Sh.beq_refl]) h2 h3 hne
              simp only [Sh.size] at a3
              rw [chunk_chunk _ _ _ _ _ a3, Nat.zero_add] at a1
              have hrun := run_loadVar_chunk (P := P) hpl Sh.size_one k2 (off := off) (by omega)
              exact ⟨_, by simp only [Instr.loadAt, Instr.sureAddr, Sem.run_bind, Sem.run_pure, Result.andThen_ok]; exact hrun, rfl, rfl, HRel.of_hc a2 a1⟩
        · rename_i fs ho
          split at h
          · rename_i i0
            split at h
            · rename_i hv hfs
              split at h
              · rename_i hfit
                simp only [Option.some.injEq] at h; subst h
                obtain ⟨b', T, vs, k1, k2, k3⟩ := H.obj o _ ho
                rw [h1] at k1
                simp only [Option.some.injEq, Place.at.injEq] at k1
                obtain ⟨rfl, rfl, rfl, rfl⟩ := k1
                simp only [Sh.navs, Sh.step, Sh.size, Nat.mul_one, Nat.add_zero, Option.some.injEq, Prod.mk.injEq] at h2
                obtain ⟨rfl, rfl⟩ := h2
                have hlt : i0 < fs.length := (List.getElem?_eq_some_iff.1 hfs).1
                obtain ⟨a1, a2⟩ := HCs.get i0 k3 (s := .ref) (by simp [hlt]) hfs
                rw [List.take_replicate, sizes_ref, Nat.min_eq_left (by omega)] at a1 a2
                have hrun := run_loadVar_chunk (P := P) hpl Sh.size_one k2 (off := i0) (by simpa using a2)
                exact ⟨_, by simp only [Instr.loadAt, Instr.sureAddr, Sem.run_bind, Sem.run_pure, Result.andThen_ok]; exact hrun, rfl, rfl, HRel.of_hc hfit a1⟩
              · cases h
            · cases h
          · cases h
        · cases h
      · cases h
    · cases h
  · rename_i s d hrx
    rw [hrx] at hx
    obtain ⟨b, off, cs, T, fr, h1, h2, h3, h4⟩ := hx.gptr
    rw [h4]
    split at h
    · rename_i s' hs
      split at h
      · rename_i hbeq
        have := Sh.beq_eq hbeq; subst this
        simp only [Option.some.injEq] at h; subst h
        have hrun := run_loadVar_chunk (P := P) (hC.tab _ _ hs).1.plain Sh.size_one (H.ghost _ _ h1) h2
        exact ⟨_, by simp only [Instr.loadAt, Instr.sureAddr, Sem.run_bind, Sem.run_pure, Result.andThen_ok]; exact hrun, rfl, rfl, HRel.dat_iff.2 ⟨_, h3, rfl⟩⟩
      · cases h
    · cases h
  · cases h

theorem s_load (hC : CtxOK P c) {ρ : Operand → HV} {ρv : Operand → Value} (hρ : ∀ x, HRel g loc (ρ x) (ρv x)) (H : HeapRel w0 hp g loc w) {t : Nat} {x : Operand} {ty : Nat} {ef : Ef}
    (h : vop0 c nx ρ hp ty (.load t x) = some ef) : ∃ v, (Instr.loadAt t (ρv x)).run P w = .ok v w ∧ OpPost w0 hp nx g loc ef v w := by
  obtain ⟨v, h1, h2, h3, h4⟩ := s_load0 hC hρ H h
  exact ⟨v, h1, g, loc, Ghost.le_refl g, Loc.le_refl loc, fun _ _ => rfl, by rw [h2]; exact H, h4⟩

theorem oneCell_of {h : HV} {s : Sh} {v : Value} (hf : fits s h = true) (hr : HRel g loc h v) : HC g loc h v.cells.toList ∧ v.cells.size = s.size ∧ ∀ x ∈ v.cells.toList, x.oneCell' = true := by
  have h1 := HRel.cells (HRel.of_fits hf hr)
  have h2 := HC.length hf h1
  exact ⟨h1, by simpa using h2, h1.one⟩

theorem s_store (hC : CtxOK P c) {ρ : Operand → HV} {ρv : Operand → Value} (hρ : ∀ x, HRel g loc (ρ x) (ρv x)) (H : HeapRel w0 hp g loc w) {t : Nat} {x y : Operand} {ty : Nat} {ef : Ef}
    (h : vop0 c nx ρ hp ty (.store t x y) = some ef) : ∃ w', (Instr.storeAt t (ρv x) (ρv y)).run P w = .ok () w' ∧ OpPost w0 hp nx g loc ef undef w' := by
  simp only [vop0] at h
  have hx := hρ x
  split at h
  · rename_i o r p s hrx
    rw [hrx] at hx
    obtain ⟨b, cap, len, off, h1, h2, h3, h4⟩ := hx.ptr
    rw [h4]
    split at h
    · rename_i s' z hty
      have hpl := tyOf_plain hC hty
      split at h
      · rename_i hbeq
        simp only [Bool.and_eq_true] at hbeq
        have := Sh.beq_eq hbeq.1; subst this
        obtain ⟨y1, y2, y3⟩ := oneCell_of hbeq.2 (hρ y)
        split at h
        · rename_i sb vb ho
          obtain ⟨b', cap', len', T, vs, k1, k2, k3, k4, k5⟩ := H.obj o _ ho
          have k1' := k1
          rw [h1] at k1
          simp only [Option.some.injEq, Place.at.injEq] at k1
          obtain ⟨rfl, rfl, rfl, rfl⟩ := k1
          split at h
          · rename_i hn hput
            simp only [Option.some.injEq] at h; subst h
            obtain ⟨a1, a2, a3⟩ := HC.putP k5 k4 h2 h3 y1 hbeq.2 hput
            have hrun := run_storeVar_chunk (P := P) hpl k2 (off := off) (by omega) y2 y3
            refine ⟨_, by simp only [Instr.storeAt, Instr.sureAddr, Sem.run_bind, Sem.run_pure, Result.andThen_ok]; exact hrun, g, loc, Ghost.le_refl g, Loc.le_refl loc, fun _ _ => rfl, ?_, trivial⟩
            refine HeapRel.set H ho rfl h1 rfl (setRow_size _ _ _) (fun k hk => setRow_other _ _ _ _ hk) ⟨rfl, rfl⟩ ?_
            refine ⟨b, cap, len, T, _, h1, setRow_same _ k2, ?_, a2, by simpa using a1⟩
            have := HC.length a2 a1
            simpa using this
          · cases h
        · rename_i s0 xs ho
          rcases H.obj o _ ho with ⟨k1, _⟩ | ⟨b', cap', T, cs, k1, k2, k3, k4, k5⟩
          · rw [h1] at k1; cases k1
          · have k1' := k1
            rw [h1] at k1
            simp only [Option.some.injEq, Place.at.injEq] at k1
            obtain ⟨rfl, rfl, rfl, rfl⟩ := k1
            split at h
            · rename_i i p' s'' e hy
              simp only [Option.some.injEq] at h; subst h
              have hle : xs.length * s0.size ≤ cs.size := by rw [k3]; exact Nat.mul_le_mul_right _ (by omega)
              simp only [Sh.navs, Sh.step] at h2
              split at h2
              · rename_i s3 o3 h2'
                simp only [Option.some.injEq, Prod.mk.injEq] at h2
                obtain ⟨rfl, rfl⟩ := h2
                simp only [Sh.inPath, Sh.inStep, Sh.step] at h3
                have hi := h3.1
                have hin := h3.2 _ _ rfl
                rw [hy] at y1 hbeq
                simp only [HC] at y1
                have hse := hbeq.2
                simp only [fits] at hse
                have := Sh.beq_eq hse; subst this
                have hgi := k5 i hi
                have hput := Rel.puts hgi h2' hin y1
                have hgo := (Rel.gets hgi h2' hin).2
                have hi2 : i * s0.size + s0.size ≤ xs.length * s0.size := by
                  calc i * s0.size + s0.size = (i + 1) * s0.size := by rw [Nat.add_mul, Nat.one_mul]
                    _ ≤ _ := Nat.mul_le_mul_right _ hi
                have hrun := run_storeVar_chunk (P := P) hpl k2 (off := i * s0.size + o3) (by omega) y2 y3
                refine ⟨_, by simp only [Instr.storeAt, Instr.sureAddr, Sem.run_bind, Sem.run_pure, Result.andThen_ok]; exact hrun, g, loc, Ghost.le_refl g, Loc.le_refl loc, fun _ _ => rfl, ?_, trivial⟩
                refine HeapRel.set H ho rfl h1 rfl (setRow_size _ _ _) (fun k hk => setRow_other _ _ _ _ hk) ⟨rfl, rfl⟩ ?_
                right
                have hyl : (ρv y).cells.toList.length = s''.size := y1.length
                have hlen : (splice cs.toList (i * s0.size + o3) (ρv y).cells.toList).length = cs.size := by
                  rw [splice_length _ _ _ (by rw [hyl, Array.length_toList]; omega), Array.length_toList]
                refine ⟨b, cap, T, _, by simpa using h1, setRow_same _ k2, by simpa [hlen] using k3, by simpa using k4, fun j hj => ?_⟩
                simp only [List.length_set] at hj
                by_cases hji : j = i
                · subst hji
                  have e1 : (xs.set j (D.puts s0 (xs.getD j .Z) p' e)).getD j .Z = D.puts s0 (xs.getD j .Z) p' e := by simp [List.getD_eq_getElem?_getD, hj]
                  rw [e1]
                  have e2 : chunk (splice cs.toList (j * s0.size + o3) (ρv y).cells.toList) (j * s0.size) s0.size = splice (chunk cs.toList (j * s0.size) s0.size) o3 (ρv y).cells.toList := by
                    have hlc : (splice (chunk cs.toList (j * s0.size) s0.size) o3 (ρv y).cells.toList).length = s0.size := by
                      rw [splice_length _ _ _ (by rw [hyl, chunk_length _ _ _ (by simp; omega)]; exact hgo), chunk_length _ _ _ (by simp; omega)]
                    have := splice_chunk cs.toList (ρv y).cells.toList (j * s0.size) s0.size o3 (by rw [hyl]; exact hgo) (by simp; omega)
                    rw [← this]
                    have h6 := chunk_splice_same cs.toList (splice (chunk cs.toList (j * s0.size) s0.size) o3 (ρv y).cells.toList) (j * s0.size) (by rw [hlc]; simp; omega)
                    rw [hlc] at h6
                    exact h6
                  rw [e2]; exact hput
                · have e1 : (xs.set i (D.puts s0 (xs.getD i .Z) p' e)).getD j .Z = xs.getD j .Z := by simp [List.getD_eq_getElem?_getD, Ne.symm hji]
                  rw [e1, chunk_splice_other]
                  · exact k5 j hj
                  · rw [hyl]; simp; omega
                  · rw [hyl]
                    rcases Nat.lt_or_gt_of_ne hji with hlt | hgt
                    · left
                      have : j * s0.size + s0.size ≤ i * s0.size := by
                        calc j * s0.size + s0.size = (j + 1) * s0.size := by rw [Nat.add_mul, Nat.one_mul]
                          _ ≤ _ := Nat.mul_le_mul_right _ hlt
                      omega
                    · right
                      have : i * s0.size + s0.size ≤ j * s0.size := by
                        calc i * s0.size + s0.size = (i + 1) * s0.size := by rw [Nat.add_mul, Nat.one_mul]
                          _ ≤ _ := Nat.mul_le_mul_right _ hgt
                      omega
              · cases h2
            · cases h
        · cases h
      · cases h
    · cases h
  · cases h

theorem s_alloc (hC : CtxOK P c) {ρ : Operand → HV} (H : HeapRel w0 hp g loc w) (hn : loc nx = none) (hn1 : loc (nx + 1) = none) {t : Nat} {ty : Nat} {ef : Ef}
    (h : vop0 c nx ρ hp ty (.alloc t) = some ef) : ∃ v w', (Instr.alloc t true (.tuple #[])).run P w = .ok v w' ∧ OpPost w0 hp nx g loc ef v w' := by
  simp only [vop0] at h
  split at h
  · rename_i s hty
    simp only [Option.some.injEq] at h; subst h
    have hty' : tyOf c t = some (.slice s, none) := by simp [tyOf, hty]
    obtain ⟨zv, z1, z2, z3, z4⟩ := tyOf_zero (g := g) (loc := loc) hC hty'
    have H1 := H.new hn (ExtAll.refl w) .nil (.grow s []) (by intro b hb; simp [Place.blk] at hb) (.inl ⟨Loc.upd_same, rfl⟩)
    have hn2 : (loc.upd nx .nil) (nx + 1) = none := by rw [Loc.upd_other (by omega)]; exact hn1
    refine ⟨.pointer (some ⟨w.heap.size, 0, none⟩), w.alloc (.cells zv.cells t), ?_, g, (loc.upd nx .nil).upd (nx + 1) (.at w.heap.size 0 0 (.slice s)), Ghost.le_refl g, Loc.le_trans (Loc.le_upd hn) (Loc.le_upd hn2), fun o ho => ?_, ?_, ?_⟩
    · simp [Instr.alloc, z1, newVar, newRow]
    · simp only at ho
      rw [Loc.upd_other (by omega), Loc.upd_other (by omega)]
    · refine H1.new hn2 (ExtAll.alloc _ _) _ _ (by intro b hb; simp only [Place.blk, Option.some.injEq] at hb; omega) ?_
      refine ⟨w.heap.size, 0, 0, t, zv.cells, Loc.upd_same, heap_alloc_new _ _, z2, by simp [fits, Sh.size, Sh.agg], ?_⟩
      simp only [H0, HC] at z3
      simp only [HC]
      exact .inl ⟨by rw [Loc.upd_other (by omega)]; exact Loc.upd_same, none, z3.1⟩
    · exact HRel.ptr_mk Loc.upd_same (by simp [Sh.navs]) (by simp [Sh.inPath])
  split at h
  · rename_i s z hty
    simp only [Option.some.injEq] at h; subst h
    obtain ⟨zv, z1, z2, z3, z4⟩ := tyOf_zero (g := g) (loc := loc) hC hty
    refine ⟨.pointer (some ⟨w.heap.size, 0, none⟩), w.alloc (.cells zv.cells t), ?_, g, loc.upd nx (.at w.heap.size 0 0 s), Ghost.le_refl g, Loc.le_upd hn, fun o ho => Loc.upd_other (by simp only at ho; omega), ?_, ?_⟩
    · simp [Instr.alloc, z1, newVar, newRow]
    · refine H.new hn (ExtAll.alloc _ _) _ _ (by intro b hb; simp only [Place.blk, Option.some.injEq] at hb; omega) ?_
      exact ⟨w.heap.size, 0, 0, t, zv.cells, Loc.upd_same, heap_alloc_new _ _, z2, z4, z3.mono (Ghost.le_refl g) (Loc.le_upd hn)⟩
    · exact HRel.ptr_mk Loc.upd_same (by simp [Sh.navs]) (by simp [Sh.inPath])
  · cases h

theorem s_box {ρ : Operand → HV} {ρv : Operand → Value} (hρ : ∀ x, HRel g loc (ρ x) (ρv x)) (H : HeapRel w0 hp g loc w) (hn : loc nx = none) {t : Nat} {x : Operand} {ty : Nat} {ef : Ef}
    (h : vop0 c nx ρ hp ty (.box t x) = some ef) : ∃ v w', (Instr.box t (ρv x)).run P w = .ok v w' ∧ OpPost w0 hp nx g loc ef v w' := by
  simp only [vop0] at h
  split at h
  · rename_i s z hty
    split at h
    · rename_i hf
      simp only [Option.some.injEq] at h; subst h
      obtain ⟨y1, y2, _⟩ := oneCell_of hf (hρ x)
      refine ⟨.pointer (some ⟨w.heap.size, 0, none⟩), w.alloc (.cells (ρv x).cells t), ?_, g, loc.upd nx (.at w.heap.size 0 0 s), Ghost.le_refl g, Loc.le_upd hn, fun o ho => Loc.upd_other (by simp only at ho; omega), ?_, ?_⟩
      · simp [Instr.box, newVar, newRow]
      · refine H.new hn (ExtAll.alloc _ _) _ _ (by intro b hb; simp only [Place.blk, Option.some.injEq] at hb; omega) ?_
        exact ⟨w.heap.size, 0, 0, t, (ρv x).cells, Loc.upd_same, heap_alloc_new _ _, y2, hf, y1.mono (Ghost.le_refl g) (Loc.le_upd hn)⟩
      · exact HRel.ptr_mk Loc.upd_same (by simp [Sh.navs]) (by simp [Sh.inPath])
    · cases h
  · cases h
end
end Go.Vm
